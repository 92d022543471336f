import Derived.Test.YtjgkmcjdkeifdaaProg
import Derived.Test.YtjgkmcjdkeifdaaFxH
set_option linter.unusedVariables false
set_option maxRecDepth 100000
namespace Go.Proofs.Ytjgkmcjdkeifdaa
open Go Go.Fw

theorem mixed : Try.prog.follows .mixedOrders = true := by kernel_rfl
abbrev eI64 : EL := (.one (.int .i64))
abbrev eB : EL := (.one .bool)
abbrev eS : EL := (.one .str)
abbrev eR0 : EL := (.cons (.int .i64) (.cons .bool (.cons (.int .u64) (.one (.sl eU8)))))

/-! drover/droverref01.Uint -/
def ref01_Uint_enc  : List Int → TV := fun r => (.vf 0 eU8 r.length false)
def ref01_Uint_obj  : List Int → List TO := fun r => [(.vec eU8 r)]
def ref01_Uint_R  (Q : List Int → Prop) : TV → List TO → Prop := RetR (ref01_Uint_enc) (ref01_Uint_obj) Q
def ref01_Uint_ret  (Q : List Int → Prop) (r : List Int) : Prop := ref01_Uint_R Q (ref01_Uint_enc r) (ref01_Uint_obj r)
theorem ref01_Uint_ret.intro  {Q : List Int → Prop} {r : List Int} (h : Q r) : ref01_Uint_ret Q r := RetR.intro h
def ref01_Uint_o2_0 : List WOp := .op (POper.mk (some 4) (.move (.const (.slice .none 0 0))) none) none :: []
def ref01_Uint_w2 : WC := (.region ref01_Uint_o2_0)
def ref01_Uint_o4_0 : List WOp := .op (POper.mk (some 7) (.bslice 1 0 [] []) none) none :: .op (POper.mk (some 8) (.move (.tmp 0)) none) none :: .op (POper.mk (some 9) (.append 1 1 (.tmp 7) (.tmp 8)) none) (some eU8) :: .op (POper.mk (some 5) (.move (.tmp 9)) none) none :: []
def ref01_Uint_w4 : WC := (.region ref01_Uint_o4_0)
def ref01_Uint_o9_0 : List WOp := .op (POper.mk (some 10) (.move (.tmp 1)) none) none :: .op (POper.mk (some 11) (.bin .rem (.tmp 10) (.const (.int .u64 128))) none) none :: .op (POper.mk (some 12) (.conv .u8 (.tmp 11)) none) none :: .op (POper.mk (some 6) (.move (.tmp 12)) none) none :: []
def ref01_Uint_w9 : WC := (.region ref01_Uint_o9_0)
def ref01_Uint_o11_0 : List WOp := .op (POper.mk (some 13) (.move (.tmp 1)) none) none :: .op (POper.mk (some 14) (.bin .quo (.tmp 13) (.const (.int .u64 128))) none) none :: .op (POper.mk (some 1) (.move (.tmp 14)) none) none :: []
def ref01_Uint_w11 : WC := (.region ref01_Uint_o11_0)
def ref01_Uint_o14_0 : List WOp := .op (POper.mk (some 15) (.move (.tmp 1)) none) none :: .op (POper.mk (some 16) (.bin .eql (.tmp 15) (.const (.int .u64 0))) none) none :: []
def ref01_Uint_w14 : WC := (.region ref01_Uint_o14_0)
def ref01_Uint_o17_0 : List WOp := .op (POper.mk (some 17) (.move (.tmp 5)) none) none :: .op (POper.mk (some 18) (.move (.tmp 6)) none) none :: .op (POper.mk (some 19) (.bslice 1 1 [(.d (.int .u8 0))] [(0, (1, (.tmp 18)))]) none) none :: .op (POper.mk (some 20) (.append 1 1 (.tmp 17) (.tmp 19)) none) (some eU8) :: .op (POper.mk (some 4) (.move (.tmp 20)) none) none :: []
def ref01_Uint_w17 : WC := (.region ref01_Uint_o17_0)
def ref01_Uint_w16 : WC := (.seq ref01_Uint_w17 .ret)
def ref01_Uint_w15 : WC := (.cond (.tmp 16) ref01_Uint_w16 .skip)
def ref01_Uint_w13 : WC := (.seq ref01_Uint_w14 ref01_Uint_w15)
def ref01_Uint_o20_0 : List WOp := .op (POper.mk (some 21) (.move (.tmp 5)) none) none :: .op (POper.mk (some 22) (.move (.tmp 6)) none) none :: .op (POper.mk (some 23) (.bin .add (.tmp 22) (.const (.int .u8 128))) none) none :: .op (POper.mk (some 24) (.bslice 1 1 [(.d (.int .u8 0))] [(0, (1, (.tmp 23)))]) none) none :: .op (POper.mk (some 25) (.append 1 1 (.tmp 21) (.tmp 24)) none) (some eU8) :: .op (POper.mk (some 5) (.move (.tmp 25)) none) none :: []
def ref01_Uint_w20 : WC := (.region ref01_Uint_o20_0)
def ref01_Uint_w12 : WC := (.seq ref01_Uint_w13 ref01_Uint_w20)
def ref01_Uint_w10 : WC := (.seq ref01_Uint_w11 ref01_Uint_w12)
def ref01_Uint_w8 : WC := (.seq ref01_Uint_w9 ref01_Uint_w10)
def ref01_Uint_w7 : WC := (.block 1 ref01_Uint_w8)
def ref01_Uint_w6 : WC := (.loop [.mask [1, 5], .gc] ref01_Uint_w7)
def ref01_Uint_w5 : WC := (.block 0 (.ann [.mask [1, 5], .gc] ref01_Uint_w6))
def ref01_Uint_w3 : WC := (.seq ref01_Uint_w4 ref01_Uint_w5)
def ref01_Uint_w1 : WC := (.seq ref01_Uint_w2 ref01_Uint_w3)
theorem ref01_Uint_rc : resolveC Try.prog [] (Try.f18.body.getD .skip) = some (WC.er ref01_Uint_w1) := by kernel_rfl
theorem ref01_Uint_rr : resolveR Try.prog Try.f18.results.toList = some [(.move (.tmp 4))] := by kernel_rfl
def ref01_Uint (b0 : List Int) (v1 : Int) (Q : List Int → Prop) : Prop := Run Try.prog 0 (FinS Try.prog 0 Try.f18 (ref01_Uint_R Q)) [.code ref01_Uint_w1] [(.sl eU8 b0), (.int .u64 v1), .und, .und, .und, .und, .und, .und, .und, .und, .und, .und, .und, .und, .und, .und, .und, .und, .und, .und, .und, .und, .und, .und, .und, .und] []
def ref01_Uint_l1 (v3 : Int) (out2 : List Int) (Q : List Int → Prop) : Prop := Run Try.prog 0 (FinS Try.prog 0 Try.f18 (ref01_Uint_R Q)) [.lp [.mask [1, 5], .gc] ref01_Uint_w7, .bend 0] [.dead, (.int .u64 v3), .dead, .dead, .dead, (.vf 0 eU8 out2.length false), .dead, .dead, .dead, .dead, .dead, .dead, .dead, .dead, .dead, .dead, .dead, .dead, .dead, .dead, .dead, .dead, .dead, .dead, .dead, .dead] [(.vec eU8 out2)]
theorem ref01_Uint_step (b0 : List Int) (v1 : Int) {Q : List Int → Prop} (h :
    (0 + b0.length ≤ 1099511627776) ∧
    ref01_Uint_l1 v1 b0 Q) : ref01_Uint b0 v1 Q :=
  adv_go 6000 mixed ref01_Uint_rr (fa := [.own (.s 0 []) eU8, .gc]) (by kernel_rfl) h
theorem ref01_Uint_l1_step (v3 : Int) (out2 : List Int) {Q : List Int → Prop} (h :
    ((128 : Int) ≠ 0) ∧
    ((128 : Int) ≠ 0) ∧
    Br ((quoK .u64 v3 128) == 0)
      (((out2.length = out2.length) ∧ (out2.length + 1 ≤ 1099511627776)) ∧
      ref01_Uint_ret Q (out2 ++ ([convK .u8 (remK v3 128)])))
      (((out2.length = out2.length) ∧ (out2.length + 1 ≤ 1099511627776)) ∧
      ref01_Uint_l1 (quoK .u64 v3 128) (out2 ++ ([addK .u8 (convK .u8 (remK v3 128)) 128])) Q)) : ref01_Uint_l1 v3 out2 Q :=
  run_loop (adv_go 6000 mixed ref01_Uint_rr (fa := [.own (.s 0 []) eU8, .gc]) (by kernel_rfl) h)
theorem ref01_Uint_act (b0 : List Int) (v1 : Int) {Q : List Int → Prop} (h : ref01_Uint b0 v1 Q) : ACT Try.prog 18 [(.sl eU8 b0), (.int .u64 v1)] [] (ref01_Uint_R Q) :=
  act_go Try.func18 (by rfl) (by kernel_rfl) ref01_Uint_rc (n0 := 0) rfl (by kernel_rfl) h
theorem ref01_Uint_ok (b0 : List Int) (v1 : Int) (r : List Int) (h : ref01_Uint b0 v1 (fun x => x = r)) : ACT Try.prog 18 [(.sl eU8 b0), (.int .u64 v1)] [] (fun tv tL => tv = ref01_Uint_enc r ∧ tL = ref01_Uint_obj r) := act_det (ref01_Uint_act b0 v1 h)

/-! drover/droverref01.GetUint -/
def ref01_GetUint_enc  : (Int × Int) → TV := fun r => (.tup [(.int .u64 r.1), (.int .i64 r.2)])
def ref01_GetUint_obj  : (Int × Int) → List TO := fun r => []
def ref01_GetUint_R  (Q : (Int × Int) → Prop) : TV → List TO → Prop := RetR (ref01_GetUint_enc) (ref01_GetUint_obj) Q
def ref01_GetUint_ret  (Q : (Int × Int) → Prop) (r : (Int × Int)) : Prop := ref01_GetUint_R Q (ref01_GetUint_enc r) (ref01_GetUint_obj r)
theorem ref01_GetUint_ret.intro  {Q : (Int × Int) → Prop} {r : (Int × Int)} (h : Q r) : ref01_GetUint_ret Q r := RetR.intro h
def ref01_GetUint_o2_0 : List WOp := .op (POper.mk (some 2) (.move (.const (.int .u64 0))) none) none :: .op (POper.mk (some 3) (.move (.const (.int .i64 0))) none) none :: []
def ref01_GetUint_w2 : WC := (.region ref01_GetUint_o2_0)
def ref01_GetUint_o4_0 : List WOp := .op (POper.mk (some 4) (.move (.const (.int .u64 0))) none) none :: []
def ref01_GetUint_w4 : WC := (.region ref01_GetUint_o4_0)
def ref01_GetUint_o7_0 : List WOp := .op (POper.mk (some 5) (.move (.const (.int .i64 0))) none) none :: []
def ref01_GetUint_w7 : WC := (.region ref01_GetUint_o7_0)
def ref01_GetUint_o12_0 : List WOp := .op (POper.mk (some 7) (.move (.tmp 5)) none) none :: .op (POper.mk (some 8) (.move (.tmp 0)) none) none :: .op (POper.mk (some 9) (.len (.tmp 8)) none) none :: .op (POper.mk (some 10) (.bin .lss (.tmp 7) (.tmp 9)) none) none :: .op (POper.mk (some 11) (.move (.tmp 10)) none) none :: .op (POper.mk (some 12) (.move (.tmp 5)) (some (11, true))) none :: .op (POper.mk (some 13) (.bin .lss (.tmp 12) (.const (.int .i64 10))) (some (11, true))) none :: .op (POper.mk (some 14) (.pick (.tmp 11) (.tmp 13) (.const (.bool false))) none) none :: []
def ref01_GetUint_w12 : WC := (.region ref01_GetUint_o12_0)
def ref01_GetUint_w13 : WC := (.cond (.tmp 14) .skip (.exit 0))
def ref01_GetUint_w11 : WC := (.seq ref01_GetUint_w12 (.ann [.mask [0, 4, 5, 14], .gc] (.cut ref01_GetUint_w13)))
def ref01_GetUint_o19_0 : List WOp := .op (POper.mk (some 17) (.move (.tmp 0)) none) none :: .op (POper.mk (some 18) (.move (.tmp 5)) none) none :: .op (POper.mk (some 19) (.iaddr 1 (.tmp 17) (.tmp 18)) none) none :: .op (POper.mk (some 20) (.load1 (.tmp 19)) none) none :: .op (POper.mk (some 21) (.bin .rem (.tmp 20) (.const (.int .u8 128))) none) none :: .op (POper.mk (some 22) (.conv .u64 (.tmp 21)) none) none :: .op (POper.mk (some 6) (.move (.tmp 22)) none) none :: []
def ref01_GetUint_w19 : WC := (.region ref01_GetUint_o19_0)
def ref01_GetUint_o22_0 : List WOp := .op (POper.mk (some 23) (.move (.tmp 5)) none) none :: .op (POper.mk (some 24) (.bin .eql (.tmp 23) (.const (.int .i64 9))) none) none :: .op (POper.mk (some 25) (.move (.tmp 24)) none) none :: .op (POper.mk (some 26) (.move (.tmp 6)) (some (25, true))) none :: .op (POper.mk (some 27) (.bin .gtr (.tmp 26) (.const (.int .u64 1))) (some (25, true))) none :: .op (POper.mk (some 28) (.pick (.tmp 25) (.tmp 27) (.const (.bool false))) none) none :: []
def ref01_GetUint_w22 : WC := (.region ref01_GetUint_o22_0)
def ref01_GetUint_o25_0 : List WOp := .op (POper.mk (some 2) (.move (.const (.int .u64 0))) none) none :: .op (POper.mk (some 3) (.move (.const (.int .i64 0))) none) none :: []
def ref01_GetUint_w25 : WC := (.region ref01_GetUint_o25_0)
def ref01_GetUint_w24 : WC := (.seq ref01_GetUint_w25 .ret)
def ref01_GetUint_w23 : WC := (.cond (.tmp 28) ref01_GetUint_w24 .skip)
def ref01_GetUint_w21 : WC := (.seq ref01_GetUint_w22 (.ann [.mask [0, 4, 5, 6, 28], .gc] (.cut ref01_GetUint_w23)))
def ref01_GetUint_o29_0 : List WOp := .op (POper.mk (some 29) (.move (.tmp 4)) none) none :: .op (POper.mk (some 30) (.move (.tmp 6)) none) none :: .op (POper.mk (some 31) (.move (.tmp 5)) none) none :: .op (POper.mk (some 32) (.bin .mul (.const (.int .i64 7)) (.tmp 31)) none) none :: .op (POper.mk (some 33) (.conv .u64 (.tmp 32)) none) none :: .op (POper.mk (some 34) (.bin .shl (.tmp 30) (.tmp 33)) none) none :: .op (POper.mk (some 35) (.bin .add (.tmp 29) (.tmp 34)) none) none :: .op (POper.mk (some 4) (.move (.tmp 35)) none) none :: []
def ref01_GetUint_w29 : WC := (.region ref01_GetUint_o29_0)
def ref01_GetUint_o31_0 : List WOp := .op (POper.mk (some 36) (.move (.tmp 0)) none) none :: .op (POper.mk (some 37) (.move (.tmp 5)) none) none :: .op (POper.mk (some 38) (.iaddr 1 (.tmp 36) (.tmp 37)) none) none :: .op (POper.mk (some 39) (.load1 (.tmp 38)) none) none :: .op (POper.mk (some 40) (.bin .lss (.tmp 39) (.const (.int .u8 128))) none) none :: []
def ref01_GetUint_w31 : WC := (.region ref01_GetUint_o31_0)
def ref01_GetUint_o35_0 : List WOp := .op (POper.mk (some 41) (.move (.tmp 5)) none) none :: .op (POper.mk (some 42) (.bin .gtr (.tmp 41) (.const (.int .i64 0))) none) none :: .op (POper.mk (some 43) (.move (.tmp 42)) none) none :: .op (POper.mk (some 44) (.move (.tmp 0)) (some (43, true))) none :: .op (POper.mk (some 45) (.move (.tmp 5)) (some (43, true))) none :: .op (POper.mk (some 46) (.iaddr 1 (.tmp 44) (.tmp 45)) (some (43, true))) none :: .op (POper.mk (some 47) (.load1 (.tmp 46)) (some (43, true))) none :: .op (POper.mk (some 48) (.bin .eql (.tmp 47) (.const (.int .u8 0))) (some (43, true))) none :: .op (POper.mk (some 49) (.pick (.tmp 43) (.tmp 48) (.const (.bool false))) none) none :: []
def ref01_GetUint_w35 : WC := (.region ref01_GetUint_o35_0)
def ref01_GetUint_o38_0 : List WOp := .op (POper.mk (some 2) (.move (.const (.int .u64 0))) none) none :: .op (POper.mk (some 3) (.move (.const (.int .i64 0))) none) none :: []
def ref01_GetUint_w38 : WC := (.region ref01_GetUint_o38_0)
def ref01_GetUint_w37 : WC := (.seq ref01_GetUint_w38 .ret)
def ref01_GetUint_w36 : WC := (.cond (.tmp 49) ref01_GetUint_w37 .skip)
def ref01_GetUint_w34 : WC := (.seq ref01_GetUint_w35 (.ann [.mask [4, 5, 49], .gc] (.cut ref01_GetUint_w36)))
def ref01_GetUint_o42_0 : List WOp := .op (POper.mk (some 50) (.move (.tmp 4)) none) none :: .op (POper.mk (some 51) (.move (.tmp 5)) none) none :: .op (POper.mk (some 52) (.bin .add (.tmp 51) (.const (.int .i64 1))) none) none :: .op (POper.mk (some 2) (.move (.tmp 50)) none) none :: .op (POper.mk (some 3) (.move (.tmp 52)) none) none :: []
def ref01_GetUint_w42 : WC := (.region ref01_GetUint_o42_0)
def ref01_GetUint_w41 : WC := (.seq ref01_GetUint_w42 .ret)
def ref01_GetUint_w33 : WC := (.seq ref01_GetUint_w34 (.ann [.mask [4, 5], .gc] (.cut ref01_GetUint_w41)))
def ref01_GetUint_w32 : WC := (.cond (.tmp 40) ref01_GetUint_w33 .skip)
def ref01_GetUint_w30 : WC := (.seq ref01_GetUint_w31 ref01_GetUint_w32)
def ref01_GetUint_w28 : WC := (.seq ref01_GetUint_w29 ref01_GetUint_w30)
def ref01_GetUint_w20 : WC := (.seq ref01_GetUint_w21 (.ann [.mask [0, 4, 5, 6], .gc] (.cut ref01_GetUint_w28)))
def ref01_GetUint_w18 : WC := (.seq ref01_GetUint_w19 ref01_GetUint_w20)
def ref01_GetUint_w17 : WC := (.block 1 ref01_GetUint_w18)
def ref01_GetUint_o45_0 : List WOp := .op (POper.mk (some 15) (.move (.tmp 5)) none) none :: .op (POper.mk (some 16) (.bin .add (.tmp 15) (.const (.int .i64 1))) none) none :: .op (POper.mk (some 5) (.move (.tmp 16)) none) none :: []
def ref01_GetUint_w45 : WC := (.region ref01_GetUint_o45_0)
def ref01_GetUint_w16 : WC := (.seq ref01_GetUint_w17 ref01_GetUint_w45)
def ref01_GetUint_w10 : WC := (.seq ref01_GetUint_w11 (.ann [.mask [0, 4, 5], .gc] (.cut ref01_GetUint_w16)))
def ref01_GetUint_w9 : WC := (.loop [.mask [0, 4, 5], .gc] ref01_GetUint_w10)
def ref01_GetUint_w8 : WC := (.block 0 (.ann [.mask [0, 4, 5], .gc] ref01_GetUint_w9))
def ref01_GetUint_w6 : WC := (.seq ref01_GetUint_w7 ref01_GetUint_w8)
def ref01_GetUint_o47_0 : List WOp := .op (POper.mk (some 2) (.move (.const (.int .u64 0))) none) none :: .op (POper.mk (some 3) (.move (.const (.int .i64 0))) none) none :: []
def ref01_GetUint_w47 : WC := (.region ref01_GetUint_o47_0)
def ref01_GetUint_w46 : WC := (.seq ref01_GetUint_w47 .ret)
def ref01_GetUint_w5 : WC := (.seq ref01_GetUint_w6 ref01_GetUint_w46)
def ref01_GetUint_w3 : WC := (.seq ref01_GetUint_w4 ref01_GetUint_w5)
def ref01_GetUint_w1 : WC := (.seq ref01_GetUint_w2 ref01_GetUint_w3)
theorem ref01_GetUint_rc : resolveC Try.prog [] (Try.f16.body.getD .skip) = some (WC.er ref01_GetUint_w1) := by kernel_rfl
theorem ref01_GetUint_rr : resolveR Try.prog Try.f16.results.toList = some [(.move (.tmp 2)), (.move (.tmp 3))] := by kernel_rfl
def ref01_GetUint (b0 : List Int) (Q : (Int × Int) → Prop) : Prop := Run Try.prog 0 (FinS Try.prog 0 Try.f16 (ref01_GetUint_R Q)) [.code ref01_GetUint_w1] [(.sl eU8 b0), .und, .und, .und, .und, .und, .und, .und, .und, .und, .und, .und, .und, .und, .und, .und, .und, .und, .und, .und, .und, .und, .und, .und, .und, .und, .und, .und, .und, .und, .und, .und, .und, .und, .und, .und, .und, .und, .und, .und, .und, .und, .und, .und, .und, .und, .und, .und, .und, .und, .und, .und, .und] []
def ref01_GetUint_l1 (b0 : List Int) (v1 : Int) (i2 : Int) (Q : (Int × Int) → Prop) : Prop := Run Try.prog 0 (FinS Try.prog 0 Try.f16 (ref01_GetUint_R Q)) [.lp [.mask [0, 4, 5], .gc] ref01_GetUint_w10, .bend 0, .code ref01_GetUint_w46] [(.sl eU8 b0), .dead, .dead, .dead, (.int .u64 v1), (.int .i64 i2), .dead, .dead, .dead, .dead, .dead, .dead, .dead, .dead, .dead, .dead, .dead, .dead, .dead, .dead, .dead, .dead, .dead, .dead, .dead, .dead, .dead, .dead, .dead, .dead, .dead, .dead, .dead, .dead, .dead, .dead, .dead, .dead, .dead, .dead, .dead, .dead, .dead, .dead, .dead, .dead, .dead, .dead, .dead, .dead, .dead, .dead, .dead] []
def ref01_GetUint_k2 (b0 : List Int) (v1 : Int) (i2 : Int) (x3 : Bool) (Q : (Int × Int) → Prop) : Prop := Run Try.prog 0 (FinS Try.prog 0 Try.f16 (ref01_GetUint_R Q)) [.code ref01_GetUint_w13, .code (.ann [.mask [0, 4, 5], .gc] (.cut ref01_GetUint_w16)), .lp [.mask [0, 4, 5], .gc] ref01_GetUint_w10, .bend 0, .code ref01_GetUint_w46] [(.sl eU8 b0), .dead, .dead, .dead, (.int .u64 v1), (.int .i64 i2), .dead, .dead, .dead, .dead, .dead, .dead, .dead, .dead, (.bool x3), .dead, .dead, .dead, .dead, .dead, .dead, .dead, .dead, .dead, .dead, .dead, .dead, .dead, .dead, .dead, .dead, .dead, .dead, .dead, .dead, .dead, .dead, .dead, .dead, .dead, .dead, .dead, .dead, .dead, .dead, .dead, .dead, .dead, .dead, .dead, .dead, .dead, .dead] []
def ref01_GetUint_k3 (b0 : List Int) (v1 : Int) (i2 : Int) (Q : (Int × Int) → Prop) : Prop := Run Try.prog 0 (FinS Try.prog 0 Try.f16 (ref01_GetUint_R Q)) [.code ref01_GetUint_w16, .lp [.mask [0, 4, 5], .gc] ref01_GetUint_w10, .bend 0, .code ref01_GetUint_w46] [(.sl eU8 b0), .dead, .dead, .dead, (.int .u64 v1), (.int .i64 i2), .dead, .dead, .dead, .dead, .dead, .dead, .dead, .dead, .dead, .dead, .dead, .dead, .dead, .dead, .dead, .dead, .dead, .dead, .dead, .dead, .dead, .dead, .dead, .dead, .dead, .dead, .dead, .dead, .dead, .dead, .dead, .dead, .dead, .dead, .dead, .dead, .dead, .dead, .dead, .dead, .dead, .dead, .dead, .dead, .dead, .dead, .dead] []
def ref01_GetUint_k4 (b0 : List Int) (v1 : Int) (i2 : Int) (x4 : Bool) (Q : (Int × Int) → Prop) : Prop := Run Try.prog 0 (FinS Try.prog 0 Try.f16 (ref01_GetUint_R Q)) [.code ref01_GetUint_w23, .code (.ann [.mask [0, 4, 5, 6], .gc] (.cut ref01_GetUint_w28)), .bend 1, .code ref01_GetUint_w45, .lp [.mask [0, 4, 5], .gc] ref01_GetUint_w10, .bend 0, .code ref01_GetUint_w46] [(.sl eU8 b0), .dead, .dead, .dead, (.int .u64 v1), (.int .i64 i2), (.int .u64 (convK .u64 (remK (rdI b0 i2.toNat) 128))), .dead, .dead, .dead, .dead, .dead, .dead, .dead, .dead, .dead, .dead, .dead, .dead, .dead, .dead, .dead, .dead, .dead, .dead, .dead, .dead, .dead, (.bool x4), .dead, .dead, .dead, .dead, .dead, .dead, .dead, .dead, .dead, .dead, .dead, .dead, .dead, .dead, .dead, .dead, .dead, .dead, .dead, .dead, .dead, .dead, .dead, .dead] []
def ref01_GetUint_k5 (b0 : List Int) (v1 : Int) (i2 : Int) (Q : (Int × Int) → Prop) : Prop := Run Try.prog 0 (FinS Try.prog 0 Try.f16 (ref01_GetUint_R Q)) [.code ref01_GetUint_w28, .bend 1, .code ref01_GetUint_w45, .lp [.mask [0, 4, 5], .gc] ref01_GetUint_w10, .bend 0, .code ref01_GetUint_w46] [(.sl eU8 b0), .dead, .dead, .dead, (.int .u64 v1), (.int .i64 i2), (.int .u64 (convK .u64 (remK (rdI b0 i2.toNat) 128))), .dead, .dead, .dead, .dead, .dead, .dead, .dead, .dead, .dead, .dead, .dead, .dead, .dead, .dead, .dead, .dead, .dead, .dead, .dead, .dead, .dead, .dead, .dead, .dead, .dead, .dead, .dead, .dead, .dead, .dead, .dead, .dead, .dead, .dead, .dead, .dead, .dead, .dead, .dead, .dead, .dead, .dead, .dead, .dead, .dead, .dead] []
def ref01_GetUint_k6 (v1 : Int) (b0 : List Int) (i2 : Int) (x5 : Bool) (Q : (Int × Int) → Prop) : Prop := Run Try.prog 0 (FinS Try.prog 0 Try.f16 (ref01_GetUint_R Q)) [.code ref01_GetUint_w36, .code (.ann [.mask [4, 5], .gc] (.cut ref01_GetUint_w41)), .bend 1, .code ref01_GetUint_w45, .lp [.mask [0, 4, 5], .gc] ref01_GetUint_w10, .bend 0, .code ref01_GetUint_w46] [.dead, .dead, .dead, .dead, (.int .u64 (addK .u64 v1 (shlK .u64 (convK .u64 (remK (rdI b0 i2.toNat) 128)) (convK .u64 (mulK .i64 7 i2))))), (.int .i64 i2), .dead, .dead, .dead, .dead, .dead, .dead, .dead, .dead, .dead, .dead, .dead, .dead, .dead, .dead, .dead, .dead, .dead, .dead, .dead, .dead, .dead, .dead, .dead, .dead, .dead, .dead, .dead, .dead, .dead, .dead, .dead, .dead, .dead, .dead, .dead, .dead, .dead, .dead, .dead, .dead, .dead, .dead, .dead, (.bool x5), .dead, .dead, .dead] []
def ref01_GetUint_k7 (v1 : Int) (b0 : List Int) (i2 : Int) (Q : (Int × Int) → Prop) : Prop := Run Try.prog 0 (FinS Try.prog 0 Try.f16 (ref01_GetUint_R Q)) [.code ref01_GetUint_w41, .bend 1, .code ref01_GetUint_w45, .lp [.mask [0, 4, 5], .gc] ref01_GetUint_w10, .bend 0, .code ref01_GetUint_w46] [.dead, .dead, .dead, .dead, (.int .u64 (addK .u64 v1 (shlK .u64 (convK .u64 (remK (rdI b0 i2.toNat) 128)) (convK .u64 (mulK .i64 7 i2))))), (.int .i64 i2), .dead, .dead, .dead, .dead, .dead, .dead, .dead, .dead, .dead, .dead, .dead, .dead, .dead, .dead, .dead, .dead, .dead, .dead, .dead, .dead, .dead, .dead, .dead, .dead, .dead, .dead, .dead, .dead, .dead, .dead, .dead, .dead, .dead, .dead, .dead, .dead, .dead, .dead, .dead, .dead, .dead, .dead, .dead, .dead, .dead, .dead, .dead] []
theorem ref01_GetUint_step (b0 : List Int) {Q : (Int × Int) → Prop} (h :
    ref01_GetUint_l1 b0 0 0 Q) : ref01_GetUint b0 Q :=
  adv_go 6000 mixed ref01_GetUint_rr (fa := [.gc]) (by kernel_rfl) h
theorem ref01_GetUint_l1_step (b0 : List Int) (v1 : Int) (i2 : Int) {Q : (Int × Int) → Prop} (h :
    Br (decide (i2 < (b0.length : Int)))
      (ref01_GetUint_k2 b0 v1 i2 (decide (i2 < 10)) Q)
      (ref01_GetUint_k2 b0 v1 i2 false Q)) : ref01_GetUint_l1 b0 v1 i2 Q :=
  run_loop (adv_go 6000 mixed ref01_GetUint_rr (fa := [.gc]) (by kernel_rfl) h)
theorem ref01_GetUint_k2_step (b0 : List Int) (v1 : Int) (i2 : Int) (x3 : Bool) {Q : (Int × Int) → Prop} (h :
    Br (x3)
      (ref01_GetUint_k3 b0 v1 i2 Q)
      (ref01_GetUint_ret Q (0, 0))) : ref01_GetUint_k2 b0 v1 i2 x3 Q :=
  adv_go 6000 mixed ref01_GetUint_rr (fa := [.gc]) (by kernel_rfl) h
theorem ref01_GetUint_k3_step (b0 : List Int) (v1 : Int) (i2 : Int) {Q : (Int × Int) → Prop} (h :
    (0 ≤ i2 ∧ i2.toNat < b0.length) ∧
    ((128 : Int) ≠ 0) ∧
    Br (i2 == 9)
      (ref01_GetUint_k4 b0 v1 i2 (decide ((convK .u64 (remK (rdI b0 i2.toNat) 128)) > 1)) Q)
      (ref01_GetUint_k4 b0 v1 i2 false Q)) : ref01_GetUint_k3 b0 v1 i2 Q :=
  adv_go 6000 mixed ref01_GetUint_rr (fa := [.gc]) (by kernel_rfl) h
theorem ref01_GetUint_k4_step (b0 : List Int) (v1 : Int) (i2 : Int) (x4 : Bool) {Q : (Int × Int) → Prop} (h :
    Br (x4)
      (ref01_GetUint_ret Q (0, 0))
      (ref01_GetUint_k5 b0 v1 i2 Q)) : ref01_GetUint_k4 b0 v1 i2 x4 Q :=
  adv_go 6000 mixed ref01_GetUint_rr (fa := [.gc]) (by kernel_rfl) h
theorem ref01_GetUint_k5_step (b0 : List Int) (v1 : Int) (i2 : Int) {Q : (Int × Int) → Prop} (h :
    (0 ≤ (convK .u64 (mulK .i64 7 i2))) ∧
    (0 ≤ i2 ∧ i2.toNat < b0.length) ∧
    Br (decide ((rdI b0 i2.toNat) < 128))
      (Br (decide (i2 > 0))
        ((0 ≤ i2 ∧ i2.toNat < b0.length) ∧
        ref01_GetUint_k6 v1 b0 i2 ((rdI b0 i2.toNat) == 0) Q)
        (ref01_GetUint_k6 v1 b0 i2 false Q))
      (ref01_GetUint_l1 b0 (addK .u64 v1 (shlK .u64 (convK .u64 (remK (rdI b0 i2.toNat) 128)) (convK .u64 (mulK .i64 7 i2)))) (addK .i64 i2 1) Q)) : ref01_GetUint_k5 b0 v1 i2 Q :=
  adv_go 6000 mixed ref01_GetUint_rr (fa := [.gc]) (by kernel_rfl) h
theorem ref01_GetUint_k6_step (v1 : Int) (b0 : List Int) (i2 : Int) (x5 : Bool) {Q : (Int × Int) → Prop} (h :
    Br (x5)
      (ref01_GetUint_ret Q (0, 0))
      (ref01_GetUint_k7 v1 b0 i2 Q)) : ref01_GetUint_k6 v1 b0 i2 x5 Q :=
  adv_go 6000 mixed ref01_GetUint_rr (fa := [.gc]) (by kernel_rfl) h
theorem ref01_GetUint_k7_step (v1 : Int) (b0 : List Int) (i2 : Int) {Q : (Int × Int) → Prop} (h :
    ref01_GetUint_ret Q (addK .u64 v1 (shlK .u64 (convK .u64 (remK (rdI b0 i2.toNat) 128)) (convK .u64 (mulK .i64 7 i2))), addK .i64 i2 1)) : ref01_GetUint_k7 v1 b0 i2 Q :=
  adv_go 6000 mixed ref01_GetUint_rr (fa := [.gc]) (by kernel_rfl) h
theorem ref01_GetUint_act (b0 : List Int) {Q : (Int × Int) → Prop} (h : ref01_GetUint b0 Q) : ACT Try.prog 16 [(.sl eU8 b0)] [] (ref01_GetUint_R Q) :=
  act_go Try.func16 (by rfl) (by kernel_rfl) ref01_GetUint_rc (n0 := 0) rfl (by kernel_rfl) h
theorem ref01_GetUint_ok (b0 : List Int) (r : (Int × Int)) (h : ref01_GetUint b0 (fun x => x = r)) : ACT Try.prog 16 [(.sl eU8 b0)] [] (fun tv tL => tv = ref01_GetUint_enc r ∧ tL = ref01_GetUint_obj r) := act_det (ref01_GetUint_act b0 h)

/-! drover/droverref01.Zig -/
def ref01_Zig_enc  : Int → TV := fun r => (.int .u64 r)
def ref01_Zig_obj  : Int → List TO := fun r => []
def ref01_Zig_R  (Q : Int → Prop) : TV → List TO → Prop := RetR (ref01_Zig_enc) (ref01_Zig_obj) Q
def ref01_Zig_ret  (Q : Int → Prop) (r : Int) : Prop := ref01_Zig_R Q (ref01_Zig_enc r) (ref01_Zig_obj r)
theorem ref01_Zig_ret.intro  {Q : Int → Prop} {r : Int} (h : Q r) : ref01_Zig_ret Q r := RetR.intro h
def ref01_Zig_o2_0 : List WOp := .op (POper.mk (some 2) (.move (.const (.int .u64 0))) none) none :: []
def ref01_Zig_w2 : WC := (.region ref01_Zig_o2_0)
def ref01_Zig_o5_0 : List WOp := .op (POper.mk (some 3) (.move (.tmp 0)) none) none :: .op (POper.mk (some 4) (.bin .lss (.tmp 3) (.const (.int .i64 0))) none) none :: []
def ref01_Zig_w5 : WC := (.region ref01_Zig_o5_0)
def ref01_Zig_o8_0 : List WOp := .op (POper.mk (some 5) (.move (.tmp 0)) none) none :: .op (POper.mk (some 6) (.bin .add (.tmp 5) (.const (.int .i64 1))) none) none :: .op (POper.mk (some 7) (.un .neg (.tmp 6)) none) none :: .op (POper.mk (some 8) (.conv .u64 (.tmp 7)) none) none :: .op (POper.mk (some 9) (.bin .mul (.tmp 8) (.const (.int .u64 2))) none) none :: .op (POper.mk (some 10) (.bin .add (.tmp 9) (.const (.int .u64 1))) none) none :: .op (POper.mk (some 2) (.move (.tmp 10)) none) none :: []
def ref01_Zig_w8 : WC := (.region ref01_Zig_o8_0)
def ref01_Zig_w7 : WC := (.seq ref01_Zig_w8 .ret)
def ref01_Zig_w6 : WC := (.cond (.tmp 4) ref01_Zig_w7 .skip)
def ref01_Zig_w4 : WC := (.seq ref01_Zig_w5 ref01_Zig_w6)
def ref01_Zig_o12_0 : List WOp := .op (POper.mk (some 11) (.move (.tmp 0)) none) none :: .op (POper.mk (some 12) (.conv .u64 (.tmp 11)) none) none :: .op (POper.mk (some 13) (.bin .mul (.tmp 12) (.const (.int .u64 2))) none) none :: .op (POper.mk (some 2) (.move (.tmp 13)) none) none :: []
def ref01_Zig_w12 : WC := (.region ref01_Zig_o12_0)
def ref01_Zig_w11 : WC := (.seq ref01_Zig_w12 .ret)
def ref01_Zig_w3 : WC := (.seq ref01_Zig_w4 ref01_Zig_w11)
def ref01_Zig_w1 : WC := (.seq ref01_Zig_w2 ref01_Zig_w3)
theorem ref01_Zig_rc : resolveC Try.prog [] (Try.f20.body.getD .skip) = some (WC.er ref01_Zig_w1) := by kernel_rfl
theorem ref01_Zig_rr : resolveR Try.prog Try.f20.results.toList = some [(.move (.tmp 2))] := by kernel_rfl
def ref01_Zig (n0 : Int) (Q : Int → Prop) : Prop := Run Try.prog 0 (FinS Try.prog 0 Try.f20 (ref01_Zig_R Q)) [.code ref01_Zig_w1] [(.int .i64 n0), .und, .und, .und, .und, .und, .und, .und, .und, .und, .und, .und, .und, .und] []
theorem ref01_Zig_step (n0 : Int) {Q : Int → Prop} (h :
    Br (decide (n0 < 0))
      (ref01_Zig_ret Q (addK .u64 (mulK .u64 (convK .u64 (negK .i64 (addK .i64 n0 1))) 2) 1))
      (ref01_Zig_ret Q (mulK .u64 (convK .u64 n0) 2))) : ref01_Zig n0 Q :=
  adv_go 6000 mixed ref01_Zig_rr (fa := [.gc]) (by kernel_rfl) h
theorem ref01_Zig_act (n0 : Int) {Q : Int → Prop} (h : ref01_Zig n0 Q) : ACT Try.prog 20 [(.int .i64 n0)] [] (ref01_Zig_R Q) :=
  act_go Try.func20 (by rfl) (by kernel_rfl) ref01_Zig_rc (n0 := 0) rfl (by kernel_rfl) h
theorem ref01_Zig_ok (n0 : Int) (r : Int) (h : ref01_Zig n0 (fun x => x = r)) : ACT Try.prog 20 [(.int .i64 n0)] [] (fun tv tL => tv = ref01_Zig_enc r ∧ tL = ref01_Zig_obj r) := act_det (ref01_Zig_act n0 h)

/-! drover/droverref01.Zag -/
def ref01_Zag_enc  : Int → TV := fun r => (.int .i64 r)
def ref01_Zag_obj  : Int → List TO := fun r => []
def ref01_Zag_R  (Q : Int → Prop) : TV → List TO → Prop := RetR (ref01_Zag_enc) (ref01_Zag_obj) Q
def ref01_Zag_ret  (Q : Int → Prop) (r : Int) : Prop := ref01_Zag_R Q (ref01_Zag_enc r) (ref01_Zag_obj r)
theorem ref01_Zag_ret.intro  {Q : Int → Prop} {r : Int} (h : Q r) : ref01_Zag_ret Q r := RetR.intro h
def ref01_Zag_o2_0 : List WOp := .op (POper.mk (some 2) (.move (.const (.int .i64 0))) none) none :: []
def ref01_Zag_w2 : WC := (.region ref01_Zag_o2_0)
def ref01_Zag_o5_0 : List WOp := .op (POper.mk (some 3) (.move (.tmp 0)) none) none :: .op (POper.mk (some 4) (.bin .rem (.tmp 3) (.const (.int .u64 2))) none) none :: .op (POper.mk (some 5) (.bin .eql (.tmp 4) (.const (.int .u64 1))) none) none :: []
def ref01_Zag_w5 : WC := (.region ref01_Zag_o5_0)
def ref01_Zag_o8_0 : List WOp := .op (POper.mk (some 6) (.move (.tmp 0)) none) none :: .op (POper.mk (some 7) (.bin .quo (.tmp 6) (.const (.int .u64 2))) none) none :: .op (POper.mk (some 8) (.conv .i64 (.tmp 7)) none) none :: .op (POper.mk (some 9) (.un .neg (.tmp 8)) none) none :: .op (POper.mk (some 10) (.bin .sub (.tmp 9) (.const (.int .i64 1))) none) none :: .op (POper.mk (some 2) (.move (.tmp 10)) none) none :: []
def ref01_Zag_w8 : WC := (.region ref01_Zag_o8_0)
def ref01_Zag_w7 : WC := (.seq ref01_Zag_w8 .ret)
def ref01_Zag_w6 : WC := (.cond (.tmp 5) ref01_Zag_w7 .skip)
def ref01_Zag_w4 : WC := (.seq ref01_Zag_w5 ref01_Zag_w6)
def ref01_Zag_o12_0 : List WOp := .op (POper.mk (some 11) (.move (.tmp 0)) none) none :: .op (POper.mk (some 12) (.bin .quo (.tmp 11) (.const (.int .u64 2))) none) none :: .op (POper.mk (some 13) (.conv .i64 (.tmp 12)) none) none :: .op (POper.mk (some 2) (.move (.tmp 13)) none) none :: []
def ref01_Zag_w12 : WC := (.region ref01_Zag_o12_0)
def ref01_Zag_w11 : WC := (.seq ref01_Zag_w12 .ret)
def ref01_Zag_w3 : WC := (.seq ref01_Zag_w4 ref01_Zag_w11)
def ref01_Zag_w1 : WC := (.seq ref01_Zag_w2 ref01_Zag_w3)
theorem ref01_Zag_rc : resolveC Try.prog [] (Try.f22.body.getD .skip) = some (WC.er ref01_Zag_w1) := by kernel_rfl
theorem ref01_Zag_rr : resolveR Try.prog Try.f22.results.toList = some [(.move (.tmp 2))] := by kernel_rfl
def ref01_Zag (v0 : Int) (Q : Int → Prop) : Prop := Run Try.prog 0 (FinS Try.prog 0 Try.f22 (ref01_Zag_R Q)) [.code ref01_Zag_w1] [(.int .u64 v0), .und, .und, .und, .und, .und, .und, .und, .und, .und, .und, .und, .und, .und] []
theorem ref01_Zag_step (v0 : Int) {Q : Int → Prop} (h :
    ((2 : Int) ≠ 0) ∧
    Br ((remK v0 2) == 1)
      (((2 : Int) ≠ 0) ∧
      ref01_Zag_ret Q (subK .i64 (negK .i64 (convK .i64 (quoK .u64 v0 2))) 1))
      (((2 : Int) ≠ 0) ∧
      ref01_Zag_ret Q (convK .i64 (quoK .u64 v0 2)))) : ref01_Zag v0 Q :=
  adv_go 6000 mixed ref01_Zag_rr (fa := [.gc]) (by kernel_rfl) h
theorem ref01_Zag_act (v0 : Int) {Q : Int → Prop} (h : ref01_Zag v0 Q) : ACT Try.prog 22 [(.int .u64 v0)] [] (ref01_Zag_R Q) :=
  act_go Try.func22 (by rfl) (by kernel_rfl) ref01_Zag_rc (n0 := 0) rfl (by kernel_rfl) h
theorem ref01_Zag_ok (v0 : Int) (r : Int) (h : ref01_Zag v0 (fun x => x = r)) : ACT Try.prog 22 [(.int .u64 v0)] [] (fun tv tL => tv = ref01_Zag_enc r ∧ tL = ref01_Zag_obj r) := act_det (ref01_Zag_act v0 h)

/-! slices.Clone[[]byte,byte] -/
def slices_Clone_byte_byte_enc  : List Int → TV := fun r => (.vf 0 eU8 r.length false)
def slices_Clone_byte_byte_obj  : List Int → List TO := fun r => [(.vec eU8 r)]
def slices_Clone_byte_byte_R  (Q : List Int → Prop) : TV → List TO → Prop := RetR (slices_Clone_byte_byte_enc) (slices_Clone_byte_byte_obj) Q
def slices_Clone_byte_byte_ret  (Q : List Int → Prop) (r : List Int) : Prop := slices_Clone_byte_byte_R Q (slices_Clone_byte_byte_enc r) (slices_Clone_byte_byte_obj r)
theorem slices_Clone_byte_byte_ret.intro  {Q : List Int → Prop} {r : List Int} (h : Q r) : slices_Clone_byte_byte_ret Q r := RetR.intro h
def slices_Clone_byte_byte_o2_0 : List WOp := .op (POper.mk (some 2) (.move (.const (.slice .none 0 0))) none) none :: []
def slices_Clone_byte_byte_w2 : WC := (.region slices_Clone_byte_byte_o2_0)
def slices_Clone_byte_byte_o5_0 : List WOp := .op (POper.mk (some 3) (.move (.tmp 0)) none) none :: .op (POper.mk (some 4) (.isnil 1 false (.tmp 3)) none) none :: []
def slices_Clone_byte_byte_w5 : WC := (.region slices_Clone_byte_byte_o5_0)
def slices_Clone_byte_byte_o8_0 : List WOp := .op (POper.mk (some 2) (.move (.const (.slice .none 0 0))) none) none :: []
def slices_Clone_byte_byte_w8 : WC := (.region slices_Clone_byte_byte_o8_0)
def slices_Clone_byte_byte_w7 : WC := (.seq slices_Clone_byte_byte_w8 .ret)
def slices_Clone_byte_byte_w6 : WC := (.cond (.tmp 4) slices_Clone_byte_byte_w7 .skip)
def slices_Clone_byte_byte_w4 : WC := (.seq slices_Clone_byte_byte_w5 slices_Clone_byte_byte_w6)
def slices_Clone_byte_byte_o12_0 : List WOp := .op (POper.mk (some 5) (.bslice 1 0 [] []) none) none :: .op (POper.mk (some 6) (.move (.tmp 0)) none) none :: .op (POper.mk (some 7) (.append 1 1 (.tmp 5) (.tmp 6)) none) (some eU8) :: .op (POper.mk (some 2) (.move (.tmp 7)) none) none :: []
def slices_Clone_byte_byte_w12 : WC := (.region slices_Clone_byte_byte_o12_0)
def slices_Clone_byte_byte_w11 : WC := (.seq slices_Clone_byte_byte_w12 .ret)
def slices_Clone_byte_byte_w3 : WC := (.seq slices_Clone_byte_byte_w4 slices_Clone_byte_byte_w11)
def slices_Clone_byte_byte_w1 : WC := (.seq slices_Clone_byte_byte_w2 slices_Clone_byte_byte_w3)
theorem slices_Clone_byte_byte_rc : resolveC Try.prog [] (Try.f29.body.getD .skip) = some (WC.er slices_Clone_byte_byte_w1) := by kernel_rfl
theorem slices_Clone_byte_byte_rr : resolveR Try.prog Try.f29.results.toList = some [(.move (.tmp 2))] := by kernel_rfl
def slices_Clone_byte_byte (s0 : List Int) (Q : List Int → Prop) : Prop := Run Try.prog 0 (FinS Try.prog 0 Try.f29 (slices_Clone_byte_byte_R Q)) [.code slices_Clone_byte_byte_w1] [(.sl eU8 s0), .und, .und, .und, .und, .und, .und, .und] []
theorem slices_Clone_byte_byte_step (s0 : List Int) {Q : List Int → Prop} (h :
    ∀ nb1 : Bool, (nb1 = true → s0 = []) →
    Br (nb1)
      (slices_Clone_byte_byte_ret Q ([]))
      ((0 + s0.length ≤ 1099511627776) ∧
      slices_Clone_byte_byte_ret Q s0)) : slices_Clone_byte_byte s0 Q :=
  adv_go 6000 mixed slices_Clone_byte_byte_rr (fa := [.own (.s 0 []) eU8, .gc]) (by kernel_rfl) h
theorem slices_Clone_byte_byte_act (s0 : List Int) {Q : List Int → Prop} (h : slices_Clone_byte_byte s0 Q) : ACT Try.prog 29 [(.sl eU8 s0)] [] (slices_Clone_byte_byte_R Q) :=
  act_go Try.func29 (by rfl) (by kernel_rfl) slices_Clone_byte_byte_rc (n0 := 0) rfl (by kernel_rfl) h
theorem slices_Clone_byte_byte_ok (s0 : List Int) (r : List Int) (h : slices_Clone_byte_byte s0 (fun x => x = r)) : ACT Try.prog 29 [(.sl eU8 s0)] [] (fun tv tL => tv = slices_Clone_byte_byte_enc r ∧ tL = slices_Clone_byte_byte_obj r) := act_det (slices_Clone_byte_byte_act s0 h)

/-! drover/field.Uint -/
def field_Uint_enc  : List Int → TV := fun r => (.vf 0 eU8 r.length false)
def field_Uint_obj  : List Int → List TO := fun r => [(.vec eU8 r)]
def field_Uint_R  (Q : List Int → Prop) : TV → List TO → Prop := RetR (field_Uint_enc) (field_Uint_obj) Q
def field_Uint_ret  (Q : List Int → Prop) (r : List Int) : Prop := field_Uint_R Q (field_Uint_enc r) (field_Uint_obj r)
theorem field_Uint_ret.intro  {Q : List Int → Prop} {r : List Int} (h : Q r) : field_Uint_ret Q r := RetR.intro h
def field_Uint_o2_0 : List WOp := .op (POper.mk (some 4) (.move (.const (.slice .none 0 0))) none) none :: []
def field_Uint_w2 : WC := (.region field_Uint_o2_0)
def field_Uint_o4_2 : List WOp := .op (POper.mk (some 0) (.move (.tmp 6)) none) none :: []
def field_Uint_o4_0 : List WOp := .op (POper.mk (some 5) (.move (.tmp 0)) none) none :: .ann [.mask [1, 5], .gc] :: .op (POper.mk (some 6) (.callf 29 [(.tmp 5)]) none) none :: field_Uint_o4_2
def field_Uint_w4 : WC := (.region field_Uint_o4_0)
def field_Uint_o10_0 : List WOp := .op (POper.mk (some 7) (.move (.tmp 1)) none) none :: .op (POper.mk (some 8) (.bin .geq (.tmp 7) (.const (.int .u64 128))) none) none :: []
def field_Uint_w10 : WC := (.region field_Uint_o10_0)
def field_Uint_w11 : WC := (.cond (.tmp 8) .skip (.exit 0))
def field_Uint_w9 : WC := (.seq field_Uint_w10 field_Uint_w11)
def field_Uint_o16_0 : List WOp := .op (POper.mk (some 11) (.move (.tmp 0)) none) none :: .op (POper.mk (some 12) (.move (.tmp 1)) none) none :: .op (POper.mk (some 13) (.conv .u8 (.tmp 12)) none) none :: .op (POper.mk (some 14) (.bin .or (.tmp 13) (.const (.int .u8 128))) none) none :: .op (POper.mk (some 15) (.bslice 1 1 [(.d (.int .u8 0))] [(0, (1, (.tmp 14)))]) none) none :: .op (POper.mk (some 16) (.append 1 1 (.tmp 11) (.tmp 15)) none) (some eU8) :: .op (POper.mk (some 0) (.move (.tmp 16)) none) none :: []
def field_Uint_w16 : WC := (.region field_Uint_o16_0)
def field_Uint_w15 : WC := (.block 1 field_Uint_w16)
def field_Uint_o17_0 : List WOp := .op (POper.mk (some 9) (.move (.tmp 1)) none) none :: .op (POper.mk (some 10) (.bin .shr (.tmp 9) (.const (.int .u64 7))) none) none :: .op (POper.mk (some 1) (.move (.tmp 10)) none) none :: []
def field_Uint_w17 : WC := (.region field_Uint_o17_0)
def field_Uint_w14 : WC := (.seq field_Uint_w15 field_Uint_w17)
def field_Uint_w8 : WC := (.seq field_Uint_w9 field_Uint_w14)
def field_Uint_w7 : WC := (.loop [.mask [0, 1], .gc] field_Uint_w8)
def field_Uint_w6 : WC := (.block 0 (.ann [.mask [0, 1], .gc] field_Uint_w7))
def field_Uint_o19_0 : List WOp := .op (POper.mk (some 17) (.move (.tmp 0)) none) none :: .op (POper.mk (some 18) (.move (.tmp 1)) none) none :: .op (POper.mk (some 19) (.conv .u8 (.tmp 18)) none) none :: .op (POper.mk (some 20) (.bslice 1 1 [(.d (.int .u8 0))] [(0, (1, (.tmp 19)))]) none) none :: .op (POper.mk (some 21) (.append 1 1 (.tmp 17) (.tmp 20)) none) (some eU8) :: .op (POper.mk (some 4) (.move (.tmp 21)) none) none :: []
def field_Uint_w19 : WC := (.region field_Uint_o19_0)
def field_Uint_w18 : WC := (.seq field_Uint_w19 .ret)
def field_Uint_w5 : WC := (.seq field_Uint_w6 field_Uint_w18)
def field_Uint_w3 : WC := (.seq field_Uint_w4 field_Uint_w5)
def field_Uint_w1 : WC := (.seq field_Uint_w2 field_Uint_w3)
theorem field_Uint_rc : resolveC Try.prog [] (Try.f17.body.getD .skip) = some (WC.er field_Uint_w1) := by kernel_rfl
theorem field_Uint_rr : resolveR Try.prog Try.f17.results.toList = some [(.move (.tmp 4))] := by kernel_rfl
def field_Uint (b0 : List Int) (v1 : Int) (Q : List Int → Prop) : Prop := Run Try.prog 0 (FinS Try.prog 0 Try.f17 (field_Uint_R Q)) [.code field_Uint_w1] [(.sl eU8 b0), (.int .u64 v1), .und, .und, .und, .und, .und, .und, .und, .und, .und, .und, .und, .und, .und, .und, .und, .und, .und, .und, .und, .und] []
def field_Uint_c1 (v1 : Int) (b0 : List Int) (Q : List Int → Prop) : Prop := Run Try.prog 0 (FinS Try.prog 0 Try.f17 (field_Uint_R Q)) [.ops (.op (POper.mk (some 6) (.callf 29 [(.tmp 5)]) none) none :: field_Uint_o4_2), .code field_Uint_w5] [.dead, (.int .u64 v1), .dead, .dead, .dead, (.sl eU8 b0), .dead, .dead, .dead, .dead, .dead, .dead, .dead, .dead, .dead, .dead, .dead, .dead, .dead, .dead, .dead, .dead] []
def field_Uint_l1 (b3 : List Int) (v4 : Int) (Q : List Int → Prop) : Prop := Run Try.prog 0 (FinS Try.prog 0 Try.f17 (field_Uint_R Q)) [.lp [.mask [0, 1], .gc] field_Uint_w8, .bend 0, .code field_Uint_w18] [(.vf 0 eU8 b3.length false), (.int .u64 v4), .dead, .dead, .dead, .dead, .dead, .dead, .dead, .dead, .dead, .dead, .dead, .dead, .dead, .dead, .dead, .dead, .dead, .dead, .dead, .dead] [(.vec eU8 b3)]
theorem field_Uint_step (b0 : List Int) (v1 : Int) {Q : List Int → Prop} (h :
    field_Uint_c1 v1 b0 Q) : field_Uint b0 v1 Q :=
  adv_go 6000 mixed field_Uint_rr (fa := [.own (.s 0 []) eU8, .gc]) (by kernel_rfl) h
theorem field_Uint_c1_step (v1 : Int) (b0 : List Int) {Q : List Int → Prop} (r2 : List Int) (hc : slices_Clone_byte_byte b0 (fun x => x = r2)) (h :
    field_Uint_l1 r2 v1 Q) : field_Uint_c1 v1 b0 Q :=
  run_callf (tout := (lendOut [] 0 (slices_Clone_byte_byte_enc r2) (slices_Clone_byte_byte_obj r2))) (call_typed [] (slices_Clone_byte_byte_ok b0 r2 hc) (by kernel_rfl) (by kernel_rfl) (by kernel_rfl)) (adv_go 6000 mixed field_Uint_rr (fa := [.own (.s 0 []) eU8, .gc]) (by kernel_rfl) h)
theorem field_Uint_l1_step (b3 : List Int) (v4 : Int) {Q : List Int → Prop} (h :
    Br (decide (v4 ≥ 128))
      (((b3.length = b3.length) ∧ (b3.length + 1 ≤ 1099511627776)) ∧
      (0 ≤ (7 : Int)) ∧
      field_Uint_l1 (b3 ++ ([orK .u8 (convK .u8 v4) 128])) (shrK .u64 v4 7) Q)
      (((b3.length = b3.length) ∧ (b3.length + 1 ≤ 1099511627776)) ∧
      field_Uint_ret Q (b3 ++ ([convK .u8 v4])))) : field_Uint_l1 b3 v4 Q :=
  run_loop (adv_go 6000 mixed field_Uint_rr (fa := [.own (.s 0 []) eU8, .gc]) (by kernel_rfl) h)
theorem field_Uint_act (b0 : List Int) (v1 : Int) {Q : List Int → Prop} (h : field_Uint b0 v1 Q) : ACT Try.prog 17 [(.sl eU8 b0), (.int .u64 v1)] [] (field_Uint_R Q) :=
  act_go Try.func17 (by rfl) (by kernel_rfl) field_Uint_rc (n0 := 0) rfl (by kernel_rfl) h
theorem field_Uint_ok (b0 : List Int) (v1 : Int) (r : List Int) (h : field_Uint b0 v1 (fun x => x = r)) : ACT Try.prog 17 [(.sl eU8 b0), (.int .u64 v1)] [] (fun tv tL => tv = field_Uint_enc r ∧ tL = field_Uint_obj r) := act_det (field_Uint_act b0 v1 h)

/-! drover/field.Zig -/
def field_Zig_enc  : Int → TV := fun r => (.int .u64 r)
def field_Zig_obj  : Int → List TO := fun r => []
def field_Zig_R  (Q : Int → Prop) : TV → List TO → Prop := RetR (field_Zig_enc) (field_Zig_obj) Q
def field_Zig_ret  (Q : Int → Prop) (r : Int) : Prop := field_Zig_R Q (field_Zig_enc r) (field_Zig_obj r)
theorem field_Zig_ret.intro  {Q : Int → Prop} {r : Int} (h : Q r) : field_Zig_ret Q r := RetR.intro h
def field_Zig_o2_0 : List WOp := .op (POper.mk (some 2) (.move (.const (.int .u64 0))) none) none :: []
def field_Zig_w2 : WC := (.region field_Zig_o2_0)
def field_Zig_o4_0 : List WOp := .op (POper.mk (some 3) (.move (.tmp 0)) none) none :: .op (POper.mk (some 4) (.conv .u64 (.tmp 3)) none) none :: .op (POper.mk (some 5) (.bin .shl (.tmp 4) (.const (.int .u64 1))) none) none :: .op (POper.mk (some 6) (.move (.tmp 0)) none) none :: .op (POper.mk (some 7) (.bin .shr (.tmp 6) (.const (.int .u64 63))) none) none :: .op (POper.mk (some 8) (.conv .u64 (.tmp 7)) none) none :: .op (POper.mk (some 9) (.bin .xor (.tmp 5) (.tmp 8)) none) none :: .op (POper.mk (some 2) (.move (.tmp 9)) none) none :: []
def field_Zig_w4 : WC := (.region field_Zig_o4_0)
def field_Zig_w3 : WC := (.seq field_Zig_w4 .ret)
def field_Zig_w1 : WC := (.seq field_Zig_w2 field_Zig_w3)
theorem field_Zig_rc : resolveC Try.prog [] (Try.f19.body.getD .skip) = some (WC.er field_Zig_w1) := by kernel_rfl
theorem field_Zig_rr : resolveR Try.prog Try.f19.results.toList = some [(.move (.tmp 2))] := by kernel_rfl
def field_Zig (n0 : Int) (Q : Int → Prop) : Prop := Run Try.prog 0 (FinS Try.prog 0 Try.f19 (field_Zig_R Q)) [.code field_Zig_w1] [(.int .i64 n0), .und, .und, .und, .und, .und, .und, .und, .und, .und] []
theorem field_Zig_step (n0 : Int) {Q : Int → Prop} (h :
    (0 ≤ (1 : Int)) ∧
    (0 ≤ (63 : Int)) ∧
    field_Zig_ret Q (xorK .u64 (shlK .u64 (convK .u64 n0) 1) (convK .u64 (shrK .i64 n0 63)))) : field_Zig n0 Q :=
  adv_go 6000 mixed field_Zig_rr (fa := [.gc]) (by kernel_rfl) h
theorem field_Zig_act (n0 : Int) {Q : Int → Prop} (h : field_Zig n0 Q) : ACT Try.prog 19 [(.int .i64 n0)] [] (field_Zig_R Q) :=
  act_go Try.func19 (by rfl) (by kernel_rfl) field_Zig_rc (n0 := 0) rfl (by kernel_rfl) h
theorem field_Zig_ok (n0 : Int) (r : Int) (h : field_Zig n0 (fun x => x = r)) : ACT Try.prog 19 [(.int .i64 n0)] [] (fun tv tL => tv = field_Zig_enc r ∧ tL = field_Zig_obj r) := act_det (field_Zig_act n0 h)

/-! drover/field.Good -/
def field_Good_enc  : Bool → TV := fun r => (.bool r)
def field_Good_obj  : Bool → List TO := fun r => []
def field_Good_R  (Q : Bool → Prop) : TV → List TO → Prop := RetR (field_Good_enc) (field_Good_obj) Q
def field_Good_ret  (Q : Bool → Prop) (r : Bool) : Prop := field_Good_R Q (field_Good_enc r) (field_Good_obj r)
theorem field_Good_ret.intro  {Q : Bool → Prop} {r : Bool} (h : Q r) : field_Good_ret Q r := RetR.intro h
def field_Good_o2_0 : List WOp := .op (POper.mk (some 1) (.box 4 (.tmp 0)) none) none :: .op (POper.mk (some 2) (.move (.const (.bool false))) none) none :: []
def field_Good_w2 : WC := (.region field_Good_o2_0)
def field_Good_o4_0 : List WOp := .op (POper.mk (some 3) (.faddr 0 (.tmp 1)) none) none :: .op (POper.mk (some 4) (.load1 (.tmp 3)) none) none :: .op (POper.mk (some 5) (.bin .geq (.tmp 4) (.const (.int .i64 1))) none) none :: .op (POper.mk (some 6) (.move (.tmp 5)) none) none :: .op (POper.mk (some 7) (.faddr 0 (.tmp 1)) (some (6, true))) none :: .op (POper.mk (some 8) (.load1 (.tmp 7)) (some (6, true))) none :: .op (POper.mk (some 9) (.bin .leq (.tmp 8) (.const (.int .i64 1000))) (some (6, true))) none :: .op (POper.mk (some 10) (.pick (.tmp 6) (.tmp 9) (.const (.bool false))) none) none :: .op (POper.mk (some 11) (.move (.tmp 10)) none) none :: .op (POper.mk (some 12) (.faddr 1 (.tmp 1)) (some (11, true))) none :: .op (POper.mk (some 13) (.load1 (.tmp 12)) (some (11, true))) none :: .op (POper.mk (some 14) (.move (.tmp 13)) (some (11, true))) none :: .op (POper.mk (some 15) (.faddr 2 (.tmp 1)) (some (14, true))) none :: .op (POper.mk (some 16) (.load1 (.tmp 15)) (some (14, true))) none :: .op (POper.mk (some 17) (.bin .eql (.tmp 16) (.const (.int .u64 0))) (some (14, true))) none :: .op (POper.mk (some 18) (.pick (.tmp 14) (.tmp 17) (.const (.bool false))) (some (11, true))) none :: .op (POper.mk (some 19) (.move (.tmp 18)) (some (11, true))) none :: .op (POper.mk (some 20) (.faddr 1 (.tmp 1)) (some (19, false))) none :: .op (POper.mk (some 21) (.load1 (.tmp 20)) (some (19, false))) none :: .op (POper.mk (some 22) (.un .not (.tmp 21)) (some (19, false))) none :: .op (POper.mk (some 23) (.move (.tmp 22)) (some (19, false))) none :: .op (POper.mk (some 24) (.faddr 3 (.tmp 1)) (some (23, true))) none :: .op (POper.mk (some 25) (.load1 (.tmp 24)) (some (23, true))) none :: .op (POper.mk (some 26) (.len (.tmp 25)) (some (23, true))) none :: .op (POper.mk (some 27) (.bin .eql (.tmp 26) (.const (.int .i64 0))) (some (23, true))) none :: .op (POper.mk (some 28) (.pick (.tmp 23) (.tmp 27) (.const (.bool false))) (some (19, false))) none :: .op (POper.mk (some 29) (.pick (.tmp 19) (.const (.bool true)) (.tmp 28)) (some (11, true))) none :: .op (POper.mk (some 30) (.pick (.tmp 11) (.tmp 29) (.const (.bool false))) none) none :: .op (POper.mk (some 2) (.move (.tmp 30)) none) none :: []
def field_Good_w4 : WC := (.region field_Good_o4_0)
def field_Good_w3 : WC := (.seq field_Good_w4 .ret)
def field_Good_w1 : WC := (.seq field_Good_w2 field_Good_w3)
theorem field_Good_rc : resolveC Try.prog [] (Try.f11.body.getD .skip) = some (WC.er field_Good_w1) := by kernel_rfl
theorem field_Good_rr : resolveR Try.prog Try.f11.results.toList = some [(.move (.tmp 2))] := by kernel_rfl
def field_Good (f0 : eR0.T) (Q : Bool → Prop) : Prop := Run Try.prog 0 (FinS Try.prog 0 Try.f11 (field_Good_R Q)) [.code field_Good_w1] [(.agg [(.int .i64 f0.1), (.bool f0.2.1), (.int .u64 f0.2.2.1), (.sl eU8 f0.2.2.2)]), .und, .und, .und, .und, .und, .und, .und, .und, .und, .und, .und, .und, .und, .und, .und, .und, .und, .und, .und, .und, .und, .und, .und, .und, .und, .und, .und, .und, .und, .und] []
theorem field_Good_step (f0 : eR0.T) {Q : Bool → Prop} (h :
    Br (decide (f0.1 ≥ 1))
      (Br (decide (f0.1 ≤ 1000))
        (Br (f0.2.1)
          (Br (f0.2.2.1 == 0)
            (field_Good_ret Q true)
            (Br (!f0.2.1)
              (field_Good_ret Q ((f0.2.2.2.length : Int) == 0))
              (field_Good_ret Q false)))
          (Br (!f0.2.1)
            (field_Good_ret Q ((f0.2.2.2.length : Int) == 0))
            (field_Good_ret Q false)))
        (field_Good_ret Q false))
      (field_Good_ret Q false)) : field_Good f0 Q :=
  adv_go 6000 mixed field_Good_rr (fa := [.gc]) (by kernel_rfl) h
theorem field_Good_act (f0 : eR0.T) {Q : Bool → Prop} (h : field_Good f0 Q) : ACT Try.prog 11 [(.agg [(.int .i64 f0.1), (.bool f0.2.1), (.int .u64 f0.2.2.1), (.sl eU8 f0.2.2.2)])] [] (field_Good_R Q) :=
  act_go Try.func11 (by rfl) (by kernel_rfl) field_Good_rc (n0 := 0) rfl (by kernel_rfl) h
theorem field_Good_ok (f0 : eR0.T) (r : Bool) (h : field_Good f0 (fun x => x = r)) : ACT Try.prog 11 [(.agg [(.int .i64 f0.1), (.bool f0.2.1), (.int .u64 f0.2.2.1), (.sl eU8 f0.2.2.2)])] [] (fun tv tL => tv = field_Good_enc r ∧ tL = field_Good_obj r) := act_det (field_Good_act f0 h)

/-! drover/field.uints -/
def field_uints_enc (l1 : Int) (l2 : Int) : List Int → TV := fun r => (.vf 1 eU8 r.length false)
def field_uints_obj (l1 : Int) (l2 : Int) : List Int → List TO := fun r => [(.arr [(.int .u64 l1), (.int .u64 l2)]), (.vec eU8 r)]
def field_uints_R (l1 : Int) (l2 : Int) (Q : List Int → Prop) : TV → List TO → Prop := RetR (field_uints_enc l1 l2) (field_uints_obj l1 l2) Q
def field_uints_ret (l1 : Int) (l2 : Int) (Q : List Int → Prop) (r : List Int) : Prop := field_uints_R l1 l2 Q (field_uints_enc l1 l2 r) (field_uints_obj l1 l2 r)
theorem field_uints_ret.intro {l1 : Int} {l2 : Int} {Q : List Int → Prop} {r : List Int} (h : Q r) : field_uints_ret l1 l2 Q r := RetR.intro h
def field_uints_o2_0 : List WOp := .op (POper.mk (some 4) (.move (.const (.slice .none 0 0))) none) none :: []
def field_uints_w2 : WC := (.region field_uints_o2_0)
def field_uints_o5_0 : List WOp := .op (POper.mk (some 7) (.move (.tmp 1)) none) none :: .op (POper.mk (some 8) (.len (.tmp 7)) none) none :: .op (POper.mk (some 9) (.move (.const (.int .i64 0))) none) none :: []
def field_uints_w5 : WC := (.region field_uints_o5_0)
def field_uints_o9_0 : List WOp := .op (POper.mk (some 10) (.bin .lss (.tmp 9) (.tmp 8)) none) none :: []
def field_uints_w9 : WC := (.region field_uints_o9_0)
def field_uints_w11 : WC := (.cond (.tmp 10) .skip (.exit 0))
def field_uints_o17_0 : List WOp := .op (POper.mk (some 11) (.iaddr 1 (.tmp 7) (.tmp 9)) none) none :: .op (POper.mk (some 12) (.load1 (.tmp 11)) none) none :: .op (POper.mk (some 6) (.move (.tmp 12)) none) none :: []
def field_uints_w17 : WC := (.region field_uints_o17_0)
def field_uints_o18_3 : List WOp := .op (POper.mk (some 0) (.move (.tmp 15)) none) none :: []
def field_uints_o18_0 : List WOp := .op (POper.mk (some 13) (.move (.tmp 0)) none) none :: .op (POper.mk (some 14) (.move (.tmp 6)) none) none :: .ann [.mask [7, 8, 9, 13, 14], .fit (.s 13 []) eU8, .gc] :: .op (POper.mk (some 15) (.callf 17 [(.tmp 13), (.tmp 14)]) none) none :: field_uints_o18_3
def field_uints_w18 : WC := (.region field_uints_o18_0)
def field_uints_w16 : WC := (.seq field_uints_w17 field_uints_w18)
def field_uints_w15 : WC := (.block 1 field_uints_w16)
def field_uints_o19_0 : List WOp := .op (POper.mk (some 16) (.bin .add (.tmp 9) (.const (.int .i64 1))) none) none :: .op (POper.mk (some 9) (.move (.tmp 16)) none) none :: []
def field_uints_w19 : WC := (.region field_uints_o19_0)
def field_uints_w14 : WC := (.seq field_uints_w15 field_uints_w19)
def field_uints_w10 : WC := (.seq field_uints_w11 field_uints_w14)
def field_uints_w8 : WC := (.seq field_uints_w9 field_uints_w10)
def field_uints_w7 : WC := (.uloop field_uints_w8)
def field_uints_w6 : WC := (.block 0 field_uints_w7)
def field_uints_w4 : WC := (.seq field_uints_w5 field_uints_w6)
def field_uints_o21_0 : List WOp := .op (POper.mk (some 17) (.move (.tmp 0)) none) none :: .op (POper.mk (some 4) (.move (.tmp 17)) none) none :: []
def field_uints_w21 : WC := (.region field_uints_o21_0)
def field_uints_w20 : WC := (.seq field_uints_w21 .ret)
def field_uints_w3 : WC := (.seq field_uints_w4 field_uints_w20)
def field_uints_w1 : WC := (.seq field_uints_w2 field_uints_w3)
theorem field_uints_rc : resolveC Try.prog [] (Try.f28.body.getD .skip) = some (WC.er field_uints_w1) := by kernel_rfl
theorem field_uints_rr : resolveR Try.prog Try.f28.results.toList = some [(.move (.tmp 4))] := by kernel_rfl
def field_uints (b0 : List Int) (l1 : Int) (l2 : Int) (Q : List Int → Prop) : Prop := Run Try.prog 1 (FinS Try.prog 1 Try.f28 (field_uints_R l1 l2 Q)) [.code field_uints_w1] [(.sl eU8 b0), (.ls 0 0 2 1 true), .und, .und, .und, .und, .und, .und, .und, .und, .und, .und, .und, .und, .und, .und, .und, .und] [(.arr [(.int .u64 l1), (.int .u64 l2)])]
def field_uints_c1 (b0 : List Int) (l1 : Int) (l2 : Int) (Q : List Int → Prop) : Prop := Run Try.prog 1 (FinS Try.prog 1 Try.f28 (field_uints_R l1 l2 Q)) [.ops (.op (POper.mk (some 15) (.callf 17 [(.tmp 13), (.tmp 14)]) none) none :: field_uints_o18_3), .bend 1, .code field_uints_w19, .ulp field_uints_w8, .bend 0, .code field_uints_w20] [.dead, .dead, .dead, .dead, .dead, .dead, .dead, (.ls 0 0 2 1 true), (.int .i64 2), (.int .i64 0), .dead, .dead, .dead, (.sl eU8 b0), (.int .u64 l1), .dead, .dead, .dead] [(.arr [(.int .u64 l1), (.int .u64 l2)])]
def field_uints_c2 (r3 : List Int) (l2 : Int) (l1 : Int) (Q : List Int → Prop) : Prop := Run Try.prog 1 (FinS Try.prog 1 Try.f28 (field_uints_R l1 l2 Q)) [.ops (.op (POper.mk (some 15) (.callf 17 [(.tmp 13), (.tmp 14)]) none) none :: field_uints_o18_3), .bend 1, .code field_uints_w19, .ulp field_uints_w8, .bend 0, .code field_uints_w20] [.dead, .dead, .dead, .dead, .dead, .dead, .dead, (.ls 0 0 2 1 true), (.int .i64 2), (.int .i64 1), .dead, .dead, .dead, (.sl eU8 r3), (.int .u64 l2), .dead, .dead, .dead] [(.arr [(.int .u64 l1), (.int .u64 l2)])]
theorem field_uints_step (b0 : List Int) (l1 : Int) (l2 : Int) {Q : List Int → Prop} (h :
    (0 ≤ (0 : Int) ∧ 0 < 2) ∧
    field_uints_c1 b0 l1 l2 Q) : field_uints b0 l1 l2 Q :=
  adv_go 6000 mixed field_uints_rr (fa := [.own (.s 0 []) eU8, .gc]) (by kernel_rfl) h
theorem field_uints_c1_step (b0 : List Int) (l1 : Int) (l2 : Int) {Q : List Int → Prop} (r3 : List Int) (hc : field_Uint b0 l1 (fun x => x = r3)) (h :
    (0 ≤ (1 : Int) ∧ 1 < 2) ∧
    (r3.length = r3.length) ∧
    field_uints_c2 r3 l2 l1 Q) : field_uints_c1 b0 l1 l2 Q :=
  run_callf (tout := (lendOut [] 1 (field_Uint_enc r3) (field_Uint_obj r3))) (call_typed [] (field_Uint_ok b0 l1 r3 hc) (by kernel_rfl) (by kernel_rfl) (by kernel_rfl)) (adv_go 6000 mixed field_uints_rr (fa := [.own (.s 0 []) eU8, .gc]) (by kernel_rfl) h)
theorem field_uints_c2_step (r3 : List Int) (l2 : Int) (l1 : Int) {Q : List Int → Prop} (r4 : List Int) (hc : field_Uint r3 l2 (fun x => x = r4)) (h :
    field_uints_ret l1 l2 Q r4) : field_uints_c2 r3 l2 l1 Q :=
  run_callf (tout := (lendOut [] 1 (field_Uint_enc r4) (field_Uint_obj r4))) (call_typed [] (field_Uint_ok r3 l2 r4 hc) (by kernel_rfl) (by kernel_rfl) (by kernel_rfl)) (adv_go 6000 mixed field_uints_rr (fa := [.own (.s 0 []) eU8, .gc]) (by kernel_rfl) h)
theorem field_uints_act (b0 : List Int) (l1 : Int) (l2 : Int) {Q : List Int → Prop} (h : field_uints b0 l1 l2 Q) : ACT Try.prog 28 [(.sl eU8 b0), (.ls 0 0 2 1 true)] [(.arr [(.int .u64 l1), (.int .u64 l2)])] (field_uints_R l1 l2 Q) :=
  act_go Try.func28 (by rfl) (by kernel_rfl) field_uints_rc (n0 := 1) rfl (by kernel_rfl) h
theorem field_uints_ok (b0 : List Int) (l1 : Int) (l2 : Int) (r : List Int) (h : field_uints b0 l1 l2 (fun x => x = r)) : ACT Try.prog 28 [(.sl eU8 b0), (.ls 0 0 2 1 true)] [(.arr [(.int .u64 l1), (.int .u64 l2)])] (fun tv tL => tv = field_uints_enc l1 l2 r ∧ tL = field_uints_obj l1 l2 r) := act_det (field_uints_act b0 l1 l2 h)

/-! drover/field.Write -/
def field_Write_enc  : List Int → TV := fun r => (.vf 0 eU8 r.length false)
def field_Write_obj  : List Int → List TO := fun r => [(.vec eU8 r)]
def field_Write_R  (Q : List Int → Prop) : TV → List TO → Prop := RetR (field_Write_enc) (field_Write_obj) Q
def field_Write_ret  (Q : List Int → Prop) (r : List Int) : Prop := field_Write_R Q (field_Write_enc r) (field_Write_obj r)
theorem field_Write_ret.intro  {Q : List Int → Prop} {r : List Int} (h : Q r) : field_Write_ret Q r := RetR.intro h
def field_Write_o2_0 : List WOp := .op (POper.mk (some 2) (.move (.const (.slice .none 0 0))) none) none :: []
def field_Write_w2 : WC := (.region field_Write_o2_0)
def field_Write_o4_0 : List WOp := .op (POper.mk (some 3) (.move (.const (.slice .none 0 0))) none) none :: []
def field_Write_w4 : WC := (.region field_Write_o4_0)
def field_Write_o7_0 : List WOp := .op (POper.mk (some 7) (.move (.tmp 0)) none) none :: .op (POper.mk (some 8) (.len (.tmp 7)) none) none :: .op (POper.mk (some 9) (.move (.const (.int .i64 0))) none) none :: []
def field_Write_w7 : WC := (.region field_Write_o7_0)
def field_Write_o11_0 : List WOp := .op (POper.mk (some 10) (.bin .lss (.tmp 9) (.tmp 8)) none) none :: []
def field_Write_w11 : WC := (.region field_Write_o11_0)
def field_Write_w13 : WC := (.cond (.tmp 10) .skip (.exit 0))
def field_Write_o19_0 : List WOp := .op (POper.mk (some 11) (.iaddr 4 (.tmp 7) (.tmp 9)) none) none :: .op (POper.mk (some 12) (.loadN 4 (.tmp 11)) none) none :: .op (POper.mk (some 5) (.alloc [(.d (.int .i64 0)), (.d (.bool false)), (.d (.int .u64 0)), .nilsl]) none) none :: .op (POper.mk none (.store 4 (.tmp 5) (.tmp 12)) none) none :: []
def field_Write_w19 : WC := (.region field_Write_o19_0)
def field_Write_o21_0 : List WOp := .op (POper.mk (some 13) (.faddr 0 (.tmp 5)) none) none :: .op (POper.mk (some 14) (.load1 (.tmp 13)) none) none :: .op (POper.mk (some 15) (.conv .u64 (.tmp 14)) none) none :: .op (POper.mk (some 16) (.bin .shl (.tmp 15) (.const (.int .u64 1))) none) none :: .op (POper.mk (some 6) (.move (.tmp 16)) none) none :: []
def field_Write_w21 : WC := (.region field_Write_o21_0)
def field_Write_o24_2 : List WOp := .op (POper.mk (some 26) (.un .not (.tmp 25)) none) none :: .op (POper.mk (some 23) (.move (.tmp 26)) none) none :: []
def field_Write_o24_0 : List WOp := .op (POper.mk (some 24) (.loadN 4 (.tmp 5)) none) none :: .ann [.mask [3, 5, 6, 7, 8, 9, 24], .gc] :: .op (POper.mk (some 25) (.callf 11 [(.tmp 24)]) none) none :: field_Write_o24_2
def field_Write_w24 : WC := (.region field_Write_o24_0)
def field_Write_o28_0 : List WOp := .op (POper.mk (some 28) (.faddr 1 (.tmp 5)) none) none :: .op (POper.mk (some 29) (.load1 (.tmp 28)) none) none :: .op (POper.mk (some 27) (.move (.tmp 29)) none) none :: []
def field_Write_w28 : WC := (.region field_Write_o28_0)
def field_Write_o30_9 : List WOp := .op (POper.mk (some 39) (.faddr 3 (.tmp 5)) none) none :: .op (POper.mk (some 40) (.load1 (.tmp 39)) none) none :: .op (POper.mk (some 41) (.append 1 1 (.tmp 38) (.tmp 40)) none) (some eU8) :: .op (POper.mk (some 3) (.move (.tmp 41)) none) none :: []
def field_Write_o30_0 : List WOp := .op (POper.mk (some 30) (.move (.tmp 3)) none) none :: .op (POper.mk (some 31) (.move (.tmp 6)) none) none :: .op (POper.mk (some 32) (.bin .or (.tmp 31) (.const (.int .u64 1))) none) none :: .op (POper.mk (some 33) (.faddr 3 (.tmp 5)) none) none :: .op (POper.mk (some 34) (.load1 (.tmp 33)) none) none :: .op (POper.mk (some 35) (.len (.tmp 34)) none) none :: .op (POper.mk (some 36) (.conv .u64 (.tmp 35)) none) none :: .op (POper.mk (some 37) (.bslice 1 2 [(.d (.int .u64 0)), (.d (.int .u64 0))] [(0, (1, (.tmp 32))), (1, (1, (.tmp 36)))]) none) none :: .op (POper.mk (some 38) (.callf 28 [(.tmp 30), (.tmp 37)]) none) none :: field_Write_o30_9
def field_Write_e30 : List (List Nat) := [[], [], [1], [], [3], [4, 3], [5, 4, 3], [2, 1, 6, 5, 4, 3], [0, 7, 2, 1, 6, 5, 4, 3], [], [9], [8, 0, 7, 2, 1, 6, 5, 4, 3, 10, 9], [11, 8, 0, 7, 2, 1, 6, 5, 4, 3, 10, 9]]
def field_Write_w30 : WC := (.dregion field_Write_o30_0 field_Write_e30)
def field_Write_o31_6 : List WOp := .op (POper.mk (some 3) (.move (.tmp 22)) none) none :: []
def field_Write_o31_0 : List WOp := .op (POper.mk (some 17) (.move (.tmp 3)) none) none :: .op (POper.mk (some 18) (.move (.tmp 6)) none) none :: .op (POper.mk (some 19) (.faddr 2 (.tmp 5)) none) none :: .op (POper.mk (some 20) (.load1 (.tmp 19)) none) none :: .op (POper.mk (some 21) (.bslice 1 2 [(.d (.int .u64 0)), (.d (.int .u64 0))] [(0, (1, (.tmp 18))), (1, (1, (.tmp 20)))]) none) none :: .ann [.mask [7, 8, 9, 17, 21], .fit (.s 17 []) eU8, .gc] :: .op (POper.mk (some 22) (.callf 28 [(.tmp 17), (.tmp 21)]) none) none :: field_Write_o31_6
def field_Write_w31 : WC := (.region field_Write_o31_0)
def field_Write_w29 : WC := (.cond (.tmp 27) field_Write_w30 field_Write_w31)
def field_Write_w27 : WC := (.seq field_Write_w28 field_Write_w29)
def field_Write_w25 : WC := (.cond (.tmp 23) .skip field_Write_w27)
def field_Write_w23 : WC := (.seq field_Write_w24 field_Write_w25)
def field_Write_w22 : WC := (.block 2 field_Write_w23)
def field_Write_w20 : WC := (.seq field_Write_w21 field_Write_w22)
def field_Write_w18 : WC := (.seq field_Write_w19 field_Write_w20)
def field_Write_w17 : WC := (.block 1 field_Write_w18)
def field_Write_o32_0 : List WOp := .op (POper.mk (some 42) (.bin .add (.tmp 9) (.const (.int .i64 1))) none) none :: .op (POper.mk (some 9) (.move (.tmp 42)) none) none :: []
def field_Write_w32 : WC := (.region field_Write_o32_0)
def field_Write_w16 : WC := (.seq field_Write_w17 field_Write_w32)
def field_Write_w12 : WC := (.seq field_Write_w13 field_Write_w16)
def field_Write_w10 : WC := (.seq field_Write_w11 field_Write_w12)
def field_Write_w9 : WC := (.loop [.mask [3, 7, 8, 9], .own (.s 3 []) eU8, .gc] field_Write_w10)
def field_Write_w8 : WC := (.block 0 (.ann [.mask [3, 7, 8, 9], .own (.s 3 []) eU8, .gc] field_Write_w9))
def field_Write_w6 : WC := (.seq field_Write_w7 field_Write_w8)
def field_Write_o34_0 : List WOp := .op (POper.mk (some 43) (.move (.tmp 3)) none) none :: .op (POper.mk (some 2) (.move (.tmp 43)) none) none :: []
def field_Write_w34 : WC := (.region field_Write_o34_0)
def field_Write_w33 : WC := (.seq field_Write_w34 .ret)
def field_Write_w5 : WC := (.seq field_Write_w6 field_Write_w33)
def field_Write_w3 : WC := (.seq field_Write_w4 field_Write_w5)
def field_Write_w1 : WC := (.seq field_Write_w2 field_Write_w3)
theorem field_Write_rc : resolveC Try.prog [] (Try.f12.body.getD .skip) = some (WC.er field_Write_w1) := by kernel_rfl
theorem field_Write_rr : resolveR Try.prog Try.f12.results.toList = some [(.move (.tmp 2))] := by kernel_rfl
def field_Write (l0 : List eR0.T) (Q : List Int → Prop) : Prop := Run Try.prog 0 (FinS Try.prog 0 Try.f12 (field_Write_R Q)) [.code field_Write_w1] [(.sl eR0 l0), .und, .und, .und, .und, .und, .und, .und, .und, .und, .und, .und, .und, .und, .und, .und, .und, .und, .und, .und, .und, .und, .und, .und, .und, .und, .und, .und, .und, .und, .und, .und, .und, .und, .und, .und, .und, .und, .und, .und, .und, .und, .und, .und] []
def field_Write_l1 (b1 : List Int) (l0 : List eR0.T) (x2 : Int) (Q : List Int → Prop) : Prop := Run Try.prog 0 (FinS Try.prog 0 Try.f12 (field_Write_R Q)) [.lp [.mask [3, 7, 8, 9], .own (.s 3 []) eU8, .gc] field_Write_w10, .bend 0, .code field_Write_w33] [.dead, .dead, .dead, (.vf 0 eU8 b1.length false), .dead, .dead, .dead, (.sl eR0 l0), (.int .i64 (l0.length : Int)), (.int .i64 x2), .dead, .dead, .dead, .dead, .dead, .dead, .dead, .dead, .dead, .dead, .dead, .dead, .dead, .dead, .dead, .dead, .dead, .dead, .dead, .dead, .dead, .dead, .dead, .dead, .dead, .dead, .dead, .dead, .dead, .dead, .dead, .dead, .dead, .dead] [(.vec eU8 b1)]
def field_Write_c1 (b1 : List Int) (l0 : List eR0.T) (x2 : Int) (Q : List Int → Prop) : Prop := Run Try.prog 0 (FinS Try.prog 0 Try.f12 (field_Write_R Q)) [.ops (.op (POper.mk (some 25) (.callf 11 [(.tmp 24)]) none) none :: field_Write_o24_2), .code field_Write_w25, .bend 2, .bend 1, .code field_Write_w32, .lp [.mask [3, 7, 8, 9], .own (.s 3 []) eU8, .gc] field_Write_w10, .bend 0, .code field_Write_w33] [.dead, .dead, .dead, (.vf 0 eU8 b1.length false), .dead, (.ptr 1 0), (.int .u64 (shlK .u64 (convK .u64 ((rd eR0 l0 x2.toNat).1)) 1)), (.sl eR0 l0), (.int .i64 (l0.length : Int)), (.int .i64 x2), .dead, .dead, .dead, .dead, .dead, .dead, .dead, .dead, .dead, .dead, .dead, .dead, .dead, .dead, (.agg [(.int .i64 ((rd eR0 l0 x2.toNat).1)), (.bool ((rd eR0 l0 x2.toNat).2.1)), (.int .u64 ((rd eR0 l0 x2.toNat).2.2.1)), (.sl eU8 ((rd eR0 l0 x2.toNat).2.2.2))]), .dead, .dead, .dead, .dead, .dead, .dead, .dead, .dead, .dead, .dead, .dead, .dead, .dead, .dead, .dead, .dead, .dead, .dead, .dead] [(.vec eU8 b1), (.arr [(.int .i64 ((rd eR0 l0 x2.toNat).1)), (.bool ((rd eR0 l0 x2.toNat).2.1)), (.int .u64 ((rd eR0 l0 x2.toNat).2.2.1)), (.sl eU8 ((rd eR0 l0 x2.toNat).2.2.2))])]
def field_Write_c2 (b1 : List Int) (l0 : List eR0.T) (x2 : Int) (r3 : Bool) (Q : List Int → Prop) : Prop := Run Try.prog 0 (FinS Try.prog 0 Try.f12 (field_Write_R Q)) [.dops (.op (POper.mk (some 38) (.callf 28 [(.tmp 30), (.tmp 37)]) none) none :: field_Write_o30_9) field_Write_e30 [([], []), ([], []), ([], []), ([], []), ([], [1]), ([], []), ([], []), ([2], [])], .bend 2, .bend 1, .code field_Write_w32, .lp [.mask [3, 7, 8, 9], .own (.s 3 []) eU8, .gc] field_Write_w10, .bend 0, .code field_Write_w33] [.dead, .dead, .dead, (.vf 0 eU8 b1.length false), .dead, (.ptr 1 0), (.int .u64 (shlK .u64 (convK .u64 ((rd eR0 l0 x2.toNat).1)) 1)), (.sl eR0 l0), (.int .i64 (l0.length : Int)), (.int .i64 x2), .dead, .dead, .dead, .dead, .dead, .dead, .dead, .dead, .dead, .dead, .dead, .dead, .dead, (.bool false), (.agg [(.int .i64 ((rd eR0 l0 x2.toNat).1)), (.bool ((rd eR0 l0 x2.toNat).2.1)), (.int .u64 ((rd eR0 l0 x2.toNat).2.2.1)), (.sl eU8 ((rd eR0 l0 x2.toNat).2.2.2))]), (.bool r3), (.bool (!r3)), (.bool true), (.ptr 1 1), (.bool ((rd eR0 l0 x2.toNat).2.1)), (.vf 0 eU8 b1.length false), (.int .u64 (shlK .u64 (convK .u64 ((rd eR0 l0 x2.toNat).1)) 1)), (.int .u64 (orK .u64 (shlK .u64 (convK .u64 ((rd eR0 l0 x2.toNat).1)) 1) 1)), (.ptr 1 3), (.sl eU8 ((rd eR0 l0 x2.toNat).2.2.2)), (.int .i64 (((rd eR0 l0 x2.toNat).2.2.2).length : Int)), (.int .u64 (convK .u64 (((rd eR0 l0 x2.toNat).2.2.2).length : Int))), (.ls 2 0 2 1 true), .dead, .dead, .dead, .dead, .dead, .dead] [(.vec eU8 b1), (.arr [(.int .i64 ((rd eR0 l0 x2.toNat).1)), (.bool ((rd eR0 l0 x2.toNat).2.1)), (.int .u64 ((rd eR0 l0 x2.toNat).2.2.1)), (.sl eU8 ((rd eR0 l0 x2.toNat).2.2.2))]), (.arr [(.int .u64 (orK .u64 (shlK .u64 (convK .u64 ((rd eR0 l0 x2.toNat).1)) 1) 1)), (.int .u64 (convK .u64 (((rd eR0 l0 x2.toNat).2.2.2).length : Int)))])]
def field_Write_c3 (l0 : List eR0.T) (x2 : Int) (b1 : List Int) (Q : List Int → Prop) : Prop := Run Try.prog 0 (FinS Try.prog 0 Try.f12 (field_Write_R Q)) [.ops (.op (POper.mk (some 22) (.callf 28 [(.tmp 17), (.tmp 21)]) none) none :: field_Write_o31_6), .bend 2, .bend 1, .code field_Write_w32, .lp [.mask [3, 7, 8, 9], .own (.s 3 []) eU8, .gc] field_Write_w10, .bend 0, .code field_Write_w33] [.dead, .dead, .dead, .dead, .dead, .dead, .dead, (.sl eR0 l0), (.int .i64 (l0.length : Int)), (.int .i64 x2), .dead, .dead, .dead, .dead, .dead, .dead, .dead, (.sl eU8 b1), .dead, .dead, .dead, (.ls 0 0 2 1 true), .dead, .dead, .dead, .dead, .dead, .dead, .dead, .dead, .dead, .dead, .dead, .dead, .dead, .dead, .dead, .dead, .dead, .dead, .dead, .dead, .dead, .dead] [(.arr [(.int .u64 (shlK .u64 (convK .u64 ((rd eR0 l0 x2.toNat).1)) 1)), (.int .u64 ((rd eR0 l0 x2.toNat).2.2.1))])]
theorem field_Write_step (l0 : List eR0.T) {Q : List Int → Prop} (h :
    field_Write_l1 ([]) l0 0 Q) : field_Write l0 Q :=
  adv_go 6000 mixed field_Write_rr (fa := [.own (.s 0 []) eU8, .gc]) (by kernel_rfl) h
theorem field_Write_l1_step (b1 : List Int) (l0 : List eR0.T) (x2 : Int) {Q : List Int → Prop} (h :
    Br (decide (x2 < (l0.length : Int)))
      ((0 ≤ x2 ∧ x2.toNat < l0.length) ∧
      (0 ≤ (1 : Int)) ∧
      field_Write_c1 b1 l0 x2 Q)
      (field_Write_ret Q b1)) : field_Write_l1 b1 l0 x2 Q :=
  run_loop (adv_go 6000 mixed field_Write_rr (fa := [.own (.s 0 []) eU8, .gc]) (by kernel_rfl) h)
theorem field_Write_c1_step (b1 : List Int) (l0 : List eR0.T) (x2 : Int) {Q : List Int → Prop} (r3 : Bool) (hc : field_Good (rd eR0 l0 x2.toNat) (fun x => x = r3)) (h :
    Br (!r3)
      (field_Write_l1 b1 l0 (addK .i64 x2 1) Q)
      (Br ((rd eR0 l0 x2.toNat).2.1)
        (field_Write_c2 b1 l0 x2 r3 Q)
        ((b1.length = b1.length) ∧
        field_Write_c3 l0 x2 b1 Q))) : field_Write_c1 b1 l0 x2 Q :=
  run_callf (tout := (lendOut [] 2 (field_Good_enc r3) (field_Good_obj r3))) (call_typed [] (field_Good_ok (rd eR0 l0 x2.toNat) r3 hc) (by kernel_rfl) (by kernel_rfl) (by kernel_rfl)) (adv_go 6000 mixed field_Write_rr (fa := [.own (.s 0 []) eU8, .gc]) (by kernel_rfl) h)
theorem field_Write_c2_step (b1 : List Int) (l0 : List eR0.T) (x2 : Int) (r3 : Bool) {Q : List Int → Prop} (r4 : List Int) (hc : field_uints b1 (orK .u64 (shlK .u64 (convK .u64 ((rd eR0 l0 x2.toNat).1)) 1) 1) (convK .u64 (((rd eR0 l0 x2.toNat).2.2.2).length : Int)) (fun x => x = r4)) (h :
    ((r4.length = r4.length) ∧ (r4.length + (((rd eR0 l0 x2.toNat).2.2.2).length) ≤ 1099511627776)) ∧
    field_Write_l1 (r4 ++ ((rd eR0 l0 x2.toNat).2.2.2)) l0 (addK .i64 x2 1) Q) : field_Write_c2 b1 l0 x2 r3 Q :=
  run_dcallf (tout := (TOut.kill 0 (lendOut [2] 3 (field_uints_enc (orK .u64 (shlK .u64 (convK .u64 ((rd eR0 l0 x2.toNat).1)) 1) 1) (convK .u64 (((rd eR0 l0 x2.toNat).2.2.2).length : Int)) r4) (field_uints_obj (orK .u64 (shlK .u64 (convK .u64 ((rd eR0 l0 x2.toNat).1)) 1) 1) (convK .u64 (((rd eR0 l0 x2.toNat).2.2.2).length : Int)) r4)))) (call_frz 0 eU8 b1 (by kernel_rfl) (rfl) (call_typed [2] (field_uints_ok b1 (orK .u64 (shlK .u64 (convK .u64 ((rd eR0 l0 x2.toNat).1)) 1) 1) (convK .u64 (((rd eR0 l0 x2.toNat).2.2.2).length : Int)) r4 hc) (by kernel_rfl) (by kernel_rfl) (by kernel_rfl)) (by kernel_rfl)) (adv_go 6000 mixed field_Write_rr (fa := [.own (.s 0 []) eU8, .gc]) (by kernel_rfl) h)
theorem field_Write_c3_step (l0 : List eR0.T) (x2 : Int) (b1 : List Int) {Q : List Int → Prop} (r5 : List Int) (hc : field_uints b1 (shlK .u64 (convK .u64 ((rd eR0 l0 x2.toNat).1)) 1) ((rd eR0 l0 x2.toNat).2.2.1) (fun x => x = r5)) (h :
    field_Write_l1 r5 l0 (addK .i64 x2 1) Q) : field_Write_c3 l0 x2 b1 Q :=
  run_callf (tout := (lendOut [0] 1 (field_uints_enc (shlK .u64 (convK .u64 ((rd eR0 l0 x2.toNat).1)) 1) ((rd eR0 l0 x2.toNat).2.2.1) r5) (field_uints_obj (shlK .u64 (convK .u64 ((rd eR0 l0 x2.toNat).1)) 1) ((rd eR0 l0 x2.toNat).2.2.1) r5))) (call_typed [0] (field_uints_ok b1 (shlK .u64 (convK .u64 ((rd eR0 l0 x2.toNat).1)) 1) ((rd eR0 l0 x2.toNat).2.2.1) r5 hc) (by kernel_rfl) (by kernel_rfl) (by kernel_rfl)) (adv_go 6000 mixed field_Write_rr (fa := [.own (.s 0 []) eU8, .gc]) (by kernel_rfl) h)
theorem field_Write_act (l0 : List eR0.T) {Q : List Int → Prop} (h : field_Write l0 Q) : ACT Try.prog 12 [(.sl eR0 l0)] [] (field_Write_R Q) :=
  act_go Try.func12 (by rfl) (by kernel_rfl) field_Write_rc (n0 := 0) rfl (by kernel_rfl) h
theorem field_Write_ok (l0 : List eR0.T) (r : List Int) (h : field_Write l0 (fun x => x = r)) : ACT Try.prog 12 [(.sl eR0 l0)] [] (fun tv tL => tv = field_Write_enc r ∧ tL = field_Write_obj r) := act_det (field_Write_act l0 h)

/-! drover/droverlaw01.lives -/
def law01_lives_enc  : Bool → TV := fun r => (.bool r)
def law01_lives_obj  : Bool → List TO := fun r => []
def law01_lives_R  (Q : Bool → Prop) : TV → List TO → Prop := RetR (law01_lives_enc) (law01_lives_obj) Q
def law01_lives_ret  (Q : Bool → Prop) (r : Bool) : Prop := law01_lives_R Q (law01_lives_enc r) (law01_lives_obj r)
theorem law01_lives_ret.intro  {Q : Bool → Prop} {r : Bool} (h : Q r) : law01_lives_ret Q r := RetR.intro h
def law01_lives_o2_0 : List WOp := .op (POper.mk (some 0) (.move (.const (.bool false))) none) none :: []
def law01_lives_w2 : WC := (.region law01_lives_o2_0)
def law01_lives_o4_0 : List WOp := .op (POper.mk (some 2) (.build [(.d (.int .i64 0)), (.d (.bool false)), (.d (.int .u64 0)), .nilsl] [(0, (1, (.const (.int .i64 1)))), (2, (1, (.const (.int .u64 5))))]) none) none :: .op (POper.mk (some 3) (.bslice 1 1 [(.d (.int .u8 0))] [(0, (1, (.const (.int .u8 97))))]) none) none :: .op (POper.mk (some 4) (.mark (.tmp 3)) none) none :: .op (POper.mk (some 5) (.build [(.d (.int .i64 0)), (.d (.bool false)), (.d (.int .u64 0)), .nilsl] [(0, (1, (.const (.int .i64 2)))), (1, (1, (.const (.bool true)))), (3, (1, (.tmp 4)))]) none) none :: .op (POper.mk (some 6) (.bslice 4 2 [(.d (.int .i64 0)), (.d (.bool false)), (.d (.int .u64 0)), .nilsl, (.d (.int .i64 0)), (.d (.bool false)), (.d (.int .u64 0)), .nilsl] [(0, (4, (.tmp 2))), (4, (4, (.tmp 5)))]) none) none :: .op (POper.mk (some 1) (.move (.tmp 6)) none) none :: []
def law01_lives_w4 : WC := (.region law01_lives_o4_0)
def law01_lives_o6_10 : List WOp := .op (POper.mk (some 17) (.b2s (.tmp 16)) (some (14, true))) none :: .op (POper.mk (some 18) (.bin .eql (.tmp 17) (.const (.string (ByteArray.mk #[2, 5, 5, 1, 97])))) (some (14, true))) none :: .op (POper.mk (some 19) (.pick (.tmp 14) (.tmp 18) (.const (.bool false))) none) none :: .op (POper.mk (some 0) (.move (.tmp 19)) none) none :: []
def law01_lives_o6_5 : List WOp := .op (POper.mk (some 12) (.bin .eql (.tmp 11) (.const (.int .u64 5))) (some (10, true))) none :: .op (POper.mk (some 13) (.pick (.tmp 10) (.tmp 12) (.const (.bool false))) none) none :: .op (POper.mk (some 14) (.move (.tmp 13)) none) none :: .op (POper.mk (some 15) (.move (.tmp 1)) (some (14, true))) none :: .ann [.mask [14, 15], .fit (.s 15 []) eR0, .gc] :: .op (POper.mk (some 16) (.callf 12 [(.tmp 15)]) (some (14, true))) none :: law01_lives_o6_10
def law01_lives_o6_1 : List WOp := .op (POper.mk (some 8) (.b2s (.tmp 7)) none) none :: .op (POper.mk (some 9) (.bin .eql (.tmp 8) (.const (.string (ByteArray.mk #[172, 2])))) none) none :: .op (POper.mk (some 10) (.move (.tmp 9)) none) none :: .ann [.mask [1, 10], .gc] :: .op (POper.mk (some 11) (.callf 19 [(.const (.int .i64 (-3)))]) (some (10, true))) none :: law01_lives_o6_5
def law01_lives_o6_0 : List WOp := .ann [.mask [1], .gc] :: .op (POper.mk (some 7) (.callf 17 [(.const (.slice .none 0 0)), (.const (.int .u64 300))]) none) none :: law01_lives_o6_1
def law01_lives_w6 : WC := (.region law01_lives_o6_0)
def law01_lives_w5 : WC := (.seq law01_lives_w6 .ret)
def law01_lives_w3 : WC := (.seq law01_lives_w4 law01_lives_w5)
def law01_lives_w1 : WC := (.seq law01_lives_w2 law01_lives_w3)
theorem law01_lives_rc : resolveC Try.prog [] (Try.f10.body.getD .skip) = some (WC.er law01_lives_w1) := by kernel_rfl
theorem law01_lives_rr : resolveR Try.prog Try.f10.results.toList = some [(.move (.tmp 0))] := by kernel_rfl
def law01_lives  (Q : Bool → Prop) : Prop := Run Try.prog 0 (FinS Try.prog 0 Try.f10 (law01_lives_R Q)) [.code law01_lives_w1] [.und, .und, .und, .und, .und, .und, .und, .und, .und, .und, .und, .und, .und, .und, .und, .und, .und, .und, .und, .und] []
def law01_lives_c1  (Q : Bool → Prop) : Prop := Run Try.prog 0 (FinS Try.prog 0 Try.f10 (law01_lives_R Q)) [.ops (.op (POper.mk (some 7) (.callf 17 [(.const (.slice .none 0 0)), (.const (.int .u64 300))]) none) none :: law01_lives_o6_1), .code .ret] [.dead, (.ls 0 0 2 4 true), .dead, .dead, .dead, .dead, .dead, .dead, .dead, .dead, .dead, .dead, .dead, .dead, .dead, .dead, .dead, .dead, .dead, .dead] [(.arr [(.int .i64 1), (.bool false), (.int .u64 5), .nilsl, (.int .i64 2), (.bool true), (.int .u64 0), (.sl eU8 ([97]))])]
def law01_lives_c2  (Q : Bool → Prop) : Prop := Run Try.prog 0 (FinS Try.prog 0 Try.f10 (law01_lives_R Q)) [.ops (.op (POper.mk (some 11) (.callf 19 [(.const (.int .i64 (-3)))]) none) none :: law01_lives_o6_5), .code .ret] [.dead, (.ls 0 0 2 4 true), .dead, .dead, .dead, .dead, .dead, .dead, .dead, .dead, (.bool true), .dead, .dead, .dead, .dead, .dead, .dead, .dead, .dead, .dead] [(.arr [(.int .i64 1), (.bool false), (.int .u64 5), .nilsl, (.int .i64 2), (.bool true), (.int .u64 0), (.sl eU8 ([97]))])]
def law01_lives_c3  (Q : Bool → Prop) : Prop := Run Try.prog 0 (FinS Try.prog 0 Try.f10 (law01_lives_R Q)) [.ops (.op (POper.mk (some 16) (.callf 12 [(.tmp 15)]) none) none :: law01_lives_o6_10), .code .ret] [.dead, .dead, .dead, .dead, .dead, .dead, .dead, .dead, .dead, .dead, .dead, .dead, .dead, .dead, (.bool true), (.sl eR0 ([(1, false, 5, []), (2, true, 0, [97])])), .dead, .dead, .dead, .dead] []
theorem law01_lives_step  {Q : Bool → Prop} (h :
    law01_lives_c1 Q) : law01_lives Q :=
  adv_go 6000 mixed law01_lives_rr (fa := [.gc]) (by kernel_rfl) h
theorem law01_lives_c1_step  {Q : Bool → Prop} (r1 : List Int) (hc : field_Uint ([]) 300 (fun x => x = r1)) (h :
    (r1.length = r1.length) ∧
    Br (streq (bytesT r1) (ByteArray.mk #[172, 2]))
      (law01_lives_c2 Q)
      (law01_lives_ret Q false)) : law01_lives_c1 Q :=
  run_callf (tout := (lendOut [] 1 (field_Uint_enc r1) (field_Uint_obj r1))) (call_typed [] (field_Uint_ok ([]) 300 r1 hc) (by kernel_rfl) (by kernel_rfl) (by kernel_rfl)) (adv_go 6000 mixed law01_lives_rr (fa := [.gc]) (by kernel_rfl) h)
theorem law01_lives_c2_step  {Q : Bool → Prop} (r2 : Int) (hc : field_Zig (-3) (fun x => x = r2)) (h :
    Br (r2 == 5)
      (law01_lives_c3 Q)
      (law01_lives_ret Q false)) : law01_lives_c2 Q :=
  run_callf (tout := (lendOut [] 1 (field_Zig_enc r2) (field_Zig_obj r2))) (call_typed [] (field_Zig_ok (-3) r2 hc) (by kernel_rfl) (by kernel_rfl) (by kernel_rfl)) (adv_go 6000 mixed law01_lives_rr (fa := [.gc]) (by kernel_rfl) h)
theorem law01_lives_c3_step  {Q : Bool → Prop} (r3 : List Int) (hc : field_Write ([(1, false, 5, []), (2, true, 0, [97])]) (fun x => x = r3)) (h :
    (r3.length = r3.length) ∧
    law01_lives_ret Q (streq (bytesT r3) (ByteArray.mk #[2, 5, 5, 1, 97]))) : law01_lives_c3 Q :=
  run_callf (tout := (lendOut [] 0 (field_Write_enc r3) (field_Write_obj r3))) (call_typed [] (field_Write_ok ([(1, false, 5, []), (2, true, 0, [97])]) r3 hc) (by kernel_rfl) (by kernel_rfl) (by kernel_rfl)) (adv_go 6000 mixed law01_lives_rr (fa := [.gc]) (by kernel_rfl) h)
theorem law01_lives_act  {Q : Bool → Prop} (h : law01_lives Q) : ACT Try.prog 10 [] [] (law01_lives_R Q) :=
  act_go Try.func10 (by rfl) (by kernel_rfl) law01_lives_rc (n0 := 0) rfl (by kernel_rfl) h
theorem law01_lives_ok  (r : Bool) (h : law01_lives (fun x => x = r)) : ACT Try.prog 10 [] [] (fun tv tL => tv = law01_lives_enc r ∧ tL = law01_lives_obj r) := act_det (law01_lives_act h)

/-! drover/field.GetUint -/
def field_GetUint_enc  : (Int × Int) → TV := fun r => (.tup [(.int .u64 r.1), (.int .i64 r.2)])
def field_GetUint_obj  : (Int × Int) → List TO := fun r => []
def field_GetUint_R  (Q : (Int × Int) → Prop) : TV → List TO → Prop := RetR (field_GetUint_enc) (field_GetUint_obj) Q
def field_GetUint_ret  (Q : (Int × Int) → Prop) (r : (Int × Int)) : Prop := field_GetUint_R Q (field_GetUint_enc r) (field_GetUint_obj r)
theorem field_GetUint_ret.intro  {Q : (Int × Int) → Prop} {r : (Int × Int)} (h : Q r) : field_GetUint_ret Q r := RetR.intro h
def field_GetUint_o2_0 : List WOp := .op (POper.mk (some 2) (.move (.const (.int .u64 0))) none) none :: .op (POper.mk (some 3) (.move (.const (.int .i64 0))) none) none :: []
def field_GetUint_w2 : WC := (.region field_GetUint_o2_0)
def field_GetUint_o4_0 : List WOp := .op (POper.mk (some 4) (.move (.const (.int .u64 0))) none) none :: []
def field_GetUint_w4 : WC := (.region field_GetUint_o4_0)
def field_GetUint_o9_0 : List WOp := .op (POper.mk (some 7) (.move (.tmp 0)) none) none :: .op (POper.mk (some 8) (.len (.tmp 7)) none) none :: .op (POper.mk (some 9) (.move (.const (.int .i64 0))) none) none :: []
def field_GetUint_w9 : WC := (.region field_GetUint_o9_0)
def field_GetUint_o13_0 : List WOp := .op (POper.mk (some 10) (.bin .lss (.tmp 9) (.tmp 8)) none) none :: []
def field_GetUint_w13 : WC := (.region field_GetUint_o13_0)
def field_GetUint_w15 : WC := (.cond (.tmp 10) .skip (.exit 0))
def field_GetUint_o21_0 : List WOp := .op (POper.mk (some 11) (.move (.tmp 9)) none) none :: .op (POper.mk (some 12) (.iaddr 1 (.tmp 7) (.tmp 9)) none) none :: .op (POper.mk (some 13) (.load1 (.tmp 12)) none) none :: .op (POper.mk (some 5) (.move (.tmp 11)) none) none :: .op (POper.mk (some 6) (.move (.tmp 13)) none) none :: []
def field_GetUint_w21 : WC := (.region field_GetUint_o21_0)
def field_GetUint_o26_0 : List WOp := .op (POper.mk (some 15) (.move (.tmp 5)) none) none :: .op (POper.mk (some 16) (.bin .eql (.tmp 15) (.const (.int .i64 9))) none) none :: .op (POper.mk (some 17) (.move (.tmp 16)) none) none :: .op (POper.mk (some 18) (.move (.tmp 6)) (some (17, true))) none :: .op (POper.mk (some 19) (.bin .gtr (.tmp 18) (.const (.int .u8 1))) (some (17, true))) none :: .op (POper.mk (some 20) (.pick (.tmp 17) (.tmp 19) (.const (.bool false))) none) none :: .op (POper.mk (some 14) (.move (.tmp 20)) none) none :: []
def field_GetUint_w26 : WC := (.region field_GetUint_o26_0)
def field_GetUint_o29_0 : List WOp := .op (POper.mk (some 21) (.move (.tmp 6)) none) none :: .op (POper.mk (some 22) (.bin .eql (.tmp 21) (.const (.int .u8 0))) none) none :: .op (POper.mk (some 23) (.move (.tmp 22)) none) none :: .op (POper.mk (some 24) (.move (.tmp 5)) (some (23, true))) none :: .op (POper.mk (some 25) (.bin .gtr (.tmp 24) (.const (.int .i64 0))) (some (23, true))) none :: .op (POper.mk (some 26) (.pick (.tmp 23) (.tmp 25) (.const (.bool false))) none) none :: .op (POper.mk (some 14) (.move (.tmp 26)) none) none :: []
def field_GetUint_w29 : WC := (.region field_GetUint_o29_0)
def field_GetUint_w27 : WC := (.cond (.tmp 14) .skip field_GetUint_w29)
def field_GetUint_w25 : WC := (.seq field_GetUint_w26 (.ann [.mask [4, 5, 6, 7, 8, 9, 14], .gc] (.cut field_GetUint_w27)))
def field_GetUint_o33_0 : List WOp := .op (POper.mk (some 28) (.move (.tmp 6)) none) none :: .op (POper.mk (some 29) (.bin .lss (.tmp 28) (.const (.int .u8 128))) none) none :: .op (POper.mk (some 27) (.move (.tmp 29)) none) none :: []
def field_GetUint_w33 : WC := (.region field_GetUint_o33_0)
def field_GetUint_o36_0 : List WOp := .op (POper.mk (some 30) (.move (.tmp 4)) none) none :: .op (POper.mk (some 31) (.move (.tmp 6)) none) none :: .op (POper.mk (some 32) (.conv .u64 (.tmp 31)) none) none :: .op (POper.mk (some 33) (.move (.tmp 5)) none) none :: .op (POper.mk (some 34) (.bin .mul (.const (.int .i64 7)) (.tmp 33)) none) none :: .op (POper.mk (some 35) (.bin .shl (.tmp 32) (.tmp 34)) none) none :: .op (POper.mk (some 36) (.bin .or (.tmp 30) (.tmp 35)) none) none :: .op (POper.mk (some 37) (.move (.tmp 5)) none) none :: .op (POper.mk (some 38) (.bin .add (.tmp 37) (.const (.int .i64 1))) none) none :: .op (POper.mk (some 2) (.move (.tmp 36)) none) none :: .op (POper.mk (some 3) (.move (.tmp 38)) none) none :: []
def field_GetUint_w36 : WC := (.region field_GetUint_o36_0)
def field_GetUint_w35 : WC := (.seq field_GetUint_w36 .ret)
def field_GetUint_w34 : WC := (.cond (.tmp 27) field_GetUint_w35 .skip)
def field_GetUint_w32 : WC := (.seq field_GetUint_w33 field_GetUint_w34)
def field_GetUint_w30 : WC := (.cond (.tmp 14) (.exit 0) field_GetUint_w32)
def field_GetUint_w24 : WC := (.seq field_GetUint_w25 (.ann [.mask [4, 5, 6, 7, 8, 9, 14], .gc] (.cut field_GetUint_w30)))
def field_GetUint_w23 : WC := (.block 2 field_GetUint_w24)
def field_GetUint_o39_0 : List WOp := .op (POper.mk (some 39) (.move (.tmp 4)) none) none :: .op (POper.mk (some 40) (.move (.tmp 6)) none) none :: .op (POper.mk (some 41) (.bin .and (.tmp 40) (.const (.int .u8 127))) none) none :: .op (POper.mk (some 42) (.conv .u64 (.tmp 41)) none) none :: .op (POper.mk (some 43) (.move (.tmp 5)) none) none :: .op (POper.mk (some 44) (.bin .mul (.const (.int .i64 7)) (.tmp 43)) none) none :: .op (POper.mk (some 45) (.bin .shl (.tmp 42) (.tmp 44)) none) none :: .op (POper.mk (some 46) (.bin .or (.tmp 39) (.tmp 45)) none) none :: .op (POper.mk (some 4) (.move (.tmp 46)) none) none :: []
def field_GetUint_w39 : WC := (.region field_GetUint_o39_0)
def field_GetUint_w22 : WC := (.seq field_GetUint_w23 (.ann [.mask [4, 5, 6, 7, 8, 9], .gc] (.cut field_GetUint_w39)))
def field_GetUint_w20 : WC := (.seq field_GetUint_w21 field_GetUint_w22)
def field_GetUint_w19 : WC := (.block 1 field_GetUint_w20)
def field_GetUint_o40_0 : List WOp := .op (POper.mk (some 47) (.bin .add (.tmp 9) (.const (.int .i64 1))) none) none :: .op (POper.mk (some 9) (.move (.tmp 47)) none) none :: []
def field_GetUint_w40 : WC := (.region field_GetUint_o40_0)
def field_GetUint_w18 : WC := (.seq field_GetUint_w19 field_GetUint_w40)
def field_GetUint_w14 : WC := (.seq field_GetUint_w15 field_GetUint_w18)
def field_GetUint_w12 : WC := (.seq field_GetUint_w13 field_GetUint_w14)
def field_GetUint_w11 : WC := (.loop [.mask [4, 7, 8, 9], .gc] field_GetUint_w12)
def field_GetUint_w10 : WC := (.block 0 (.ann [.mask [4, 7, 8, 9], .gc] field_GetUint_w11))
def field_GetUint_w8 : WC := (.seq field_GetUint_w9 field_GetUint_w10)
def field_GetUint_o42_0 : List WOp := .op (POper.mk (some 2) (.move (.const (.int .u64 0))) none) none :: .op (POper.mk (some 3) (.move (.const (.int .i64 0))) none) none :: []
def field_GetUint_w42 : WC := (.region field_GetUint_o42_0)
def field_GetUint_w41 : WC := (.seq field_GetUint_w42 .ret)
def field_GetUint_w7 : WC := (.seq field_GetUint_w8 field_GetUint_w41)
def field_GetUint_w5 : WC := (.seq .skip field_GetUint_w7)
def field_GetUint_w3 : WC := (.seq field_GetUint_w4 field_GetUint_w5)
def field_GetUint_w1 : WC := (.seq field_GetUint_w2 field_GetUint_w3)
theorem field_GetUint_rc : resolveC Try.prog [] (Try.f15.body.getD .skip) = some (WC.er field_GetUint_w1) := by kernel_rfl
theorem field_GetUint_rr : resolveR Try.prog Try.f15.results.toList = some [(.move (.tmp 2)), (.move (.tmp 3))] := by kernel_rfl
def field_GetUint (b0 : List Int) (Q : (Int × Int) → Prop) : Prop := Run Try.prog 0 (FinS Try.prog 0 Try.f15 (field_GetUint_R Q)) [.code field_GetUint_w1] [(.sl eU8 b0), .und, .und, .und, .und, .und, .und, .und, .und, .und, .und, .und, .und, .und, .und, .und, .und, .und, .und, .und, .und, .und, .und, .und, .und, .und, .und, .und, .und, .und, .und, .und, .und, .und, .und, .und, .und, .und, .und, .und, .und, .und, .und, .und, .und, .und, .und, .und] []
def field_GetUint_l1 (v1 : Int) (b0 : List Int) (x2 : Int) (Q : (Int × Int) → Prop) : Prop := Run Try.prog 0 (FinS Try.prog 0 Try.f15 (field_GetUint_R Q)) [.lp [.mask [4, 7, 8, 9], .gc] field_GetUint_w12, .bend 0, .code field_GetUint_w41] [.dead, .dead, .dead, .dead, (.int .u64 v1), .dead, .dead, (.sl eU8 b0), (.int .i64 (b0.length : Int)), (.int .i64 x2), .dead, .dead, .dead, .dead, .dead, .dead, .dead, .dead, .dead, .dead, .dead, .dead, .dead, .dead, .dead, .dead, .dead, .dead, .dead, .dead, .dead, .dead, .dead, .dead, .dead, .dead, .dead, .dead, .dead, .dead, .dead, .dead, .dead, .dead, .dead, .dead, .dead, .dead] []
def field_GetUint_k2 (v1 : Int) (x2 : Int) (b0 : List Int) (x3 : Bool) (Q : (Int × Int) → Prop) : Prop := Run Try.prog 0 (FinS Try.prog 0 Try.f15 (field_GetUint_R Q)) [.code field_GetUint_w27, .code (.ann [.mask [4, 5, 6, 7, 8, 9, 14], .gc] (.cut field_GetUint_w30)), .bend 2, .code (.ann [.mask [4, 5, 6, 7, 8, 9], .gc] (.cut field_GetUint_w39)), .bend 1, .code field_GetUint_w40, .lp [.mask [4, 7, 8, 9], .gc] field_GetUint_w12, .bend 0, .code field_GetUint_w41] [.dead, .dead, .dead, .dead, (.int .u64 v1), (.int .i64 x2), (.int .u8 (rdI b0 x2.toNat)), (.sl eU8 b0), (.int .i64 (b0.length : Int)), (.int .i64 x2), .dead, .dead, .dead, .dead, (.bool x3), .dead, .dead, .dead, .dead, .dead, .dead, .dead, .dead, .dead, .dead, .dead, .dead, .dead, .dead, .dead, .dead, .dead, .dead, .dead, .dead, .dead, .dead, .dead, .dead, .dead, .dead, .dead, .dead, .dead, .dead, .dead, .dead, .dead] []
def field_GetUint_k3 (v1 : Int) (x2 : Int) (b0 : List Int) (x4 : Bool) (Q : (Int × Int) → Prop) : Prop := Run Try.prog 0 (FinS Try.prog 0 Try.f15 (field_GetUint_R Q)) [.code field_GetUint_w30, .bend 2, .code (.ann [.mask [4, 5, 6, 7, 8, 9], .gc] (.cut field_GetUint_w39)), .bend 1, .code field_GetUint_w40, .lp [.mask [4, 7, 8, 9], .gc] field_GetUint_w12, .bend 0, .code field_GetUint_w41] [.dead, .dead, .dead, .dead, (.int .u64 v1), (.int .i64 x2), (.int .u8 (rdI b0 x2.toNat)), (.sl eU8 b0), (.int .i64 (b0.length : Int)), (.int .i64 x2), .dead, .dead, .dead, .dead, (.bool x4), .dead, .dead, .dead, .dead, .dead, .dead, .dead, .dead, .dead, .dead, .dead, .dead, .dead, .dead, .dead, .dead, .dead, .dead, .dead, .dead, .dead, .dead, .dead, .dead, .dead, .dead, .dead, .dead, .dead, .dead, .dead, .dead, .dead] []
def field_GetUint_k4 (v1 : Int) (x2 : Int) (b0 : List Int) (Q : (Int × Int) → Prop) : Prop := Run Try.prog 0 (FinS Try.prog 0 Try.f15 (field_GetUint_R Q)) [.code field_GetUint_w39, .bend 1, .code field_GetUint_w40, .lp [.mask [4, 7, 8, 9], .gc] field_GetUint_w12, .bend 0, .code field_GetUint_w41] [.dead, .dead, .dead, .dead, (.int .u64 v1), (.int .i64 x2), (.int .u8 (rdI b0 x2.toNat)), (.sl eU8 b0), (.int .i64 (b0.length : Int)), (.int .i64 x2), .dead, .dead, .dead, .dead, .dead, .dead, .dead, .dead, .dead, .dead, .dead, .dead, .dead, .dead, .dead, .dead, .dead, .dead, .dead, .dead, .dead, .dead, .dead, .dead, .dead, .dead, .dead, .dead, .dead, .dead, .dead, .dead, .dead, .dead, .dead, .dead, .dead, .dead] []
theorem field_GetUint_step (b0 : List Int) {Q : (Int × Int) → Prop} (h :
    field_GetUint_l1 0 b0 0 Q) : field_GetUint b0 Q :=
  adv_go 6000 mixed field_GetUint_rr (fa := [.gc]) (by kernel_rfl) h
theorem field_GetUint_l1_step (v1 : Int) (b0 : List Int) (x2 : Int) {Q : (Int × Int) → Prop} (h :
    Br (decide (x2 < (b0.length : Int)))
      ((0 ≤ x2 ∧ x2.toNat < b0.length) ∧
      Br (x2 == 9)
        (field_GetUint_k2 v1 x2 b0 (decide ((rdI b0 x2.toNat) > 1)) Q)
        (field_GetUint_k2 v1 x2 b0 false Q))
      (field_GetUint_ret Q (0, 0))) : field_GetUint_l1 v1 b0 x2 Q :=
  run_loop (adv_go 6000 mixed field_GetUint_rr (fa := [.gc]) (by kernel_rfl) h)
theorem field_GetUint_k2_step (v1 : Int) (x2 : Int) (b0 : List Int) (x3 : Bool) {Q : (Int × Int) → Prop} (h :
    Br (x3)
      (field_GetUint_k3 v1 x2 b0 true Q)
      (Br ((rdI b0 x2.toNat) == 0)
        (field_GetUint_k3 v1 x2 b0 (decide (x2 > 0)) Q)
        (field_GetUint_k3 v1 x2 b0 false Q))) : field_GetUint_k2 v1 x2 b0 x3 Q :=
  adv_go 6000 mixed field_GetUint_rr (fa := [.gc]) (by kernel_rfl) h
theorem field_GetUint_k3_step (v1 : Int) (x2 : Int) (b0 : List Int) (x4 : Bool) {Q : (Int × Int) → Prop} (h :
    Br (x4)
      (field_GetUint_ret Q (0, 0))
      (Br (decide ((rdI b0 x2.toNat) < 128))
        ((0 ≤ (mulK .i64 7 x2)) ∧
        field_GetUint_ret Q (orK .u64 v1 (shlK .u64 (convK .u64 (rdI b0 x2.toNat)) (mulK .i64 7 x2)), addK .i64 x2 1))
        (field_GetUint_k4 v1 x2 b0 Q))) : field_GetUint_k3 v1 x2 b0 x4 Q :=
  adv_go 6000 mixed field_GetUint_rr (fa := [.gc]) (by kernel_rfl) h
theorem field_GetUint_k4_step (v1 : Int) (x2 : Int) (b0 : List Int) {Q : (Int × Int) → Prop} (h :
    (0 ≤ (mulK .i64 7 x2)) ∧
    field_GetUint_l1 (orK .u64 v1 (shlK .u64 (convK .u64 (andK .u8 (rdI b0 x2.toNat) 127)) (mulK .i64 7 x2))) b0 (addK .i64 x2 1) Q) : field_GetUint_k4 v1 x2 b0 Q :=
  adv_go 6000 mixed field_GetUint_rr (fa := [.gc]) (by kernel_rfl) h
theorem field_GetUint_act (b0 : List Int) {Q : (Int × Int) → Prop} (h : field_GetUint b0 Q) : ACT Try.prog 15 [(.sl eU8 b0)] [] (field_GetUint_R Q) :=
  act_go Try.func15 (by rfl) (by kernel_rfl) field_GetUint_rc (n0 := 0) rfl (by kernel_rfl) h
theorem field_GetUint_ok (b0 : List Int) (r : (Int × Int)) (h : field_GetUint b0 (fun x => x = r)) : ACT Try.prog 15 [(.sl eU8 b0)] [] (fun tv tL => tv = field_GetUint_enc r ∧ tL = field_GetUint_obj r) := act_det (field_GetUint_act b0 h)

/-! drover/field.Zag -/
def field_Zag_enc  : Int → TV := fun r => (.int .i64 r)
def field_Zag_obj  : Int → List TO := fun r => []
def field_Zag_R  (Q : Int → Prop) : TV → List TO → Prop := RetR (field_Zag_enc) (field_Zag_obj) Q
def field_Zag_ret  (Q : Int → Prop) (r : Int) : Prop := field_Zag_R Q (field_Zag_enc r) (field_Zag_obj r)
theorem field_Zag_ret.intro  {Q : Int → Prop} {r : Int} (h : Q r) : field_Zag_ret Q r := RetR.intro h
def field_Zag_o2_0 : List WOp := .op (POper.mk (some 2) (.move (.const (.int .i64 0))) none) none :: []
def field_Zag_w2 : WC := (.region field_Zag_o2_0)
def field_Zag_o4_0 : List WOp := .op (POper.mk (some 3) (.move (.tmp 0)) none) none :: .op (POper.mk (some 4) (.bin .shr (.tmp 3) (.const (.int .u64 1))) none) none :: .op (POper.mk (some 5) (.conv .i64 (.tmp 4)) none) none :: .op (POper.mk (some 6) (.move (.tmp 0)) none) none :: .op (POper.mk (some 7) (.bin .and (.tmp 6) (.const (.int .u64 1))) none) none :: .op (POper.mk (some 8) (.conv .i64 (.tmp 7)) none) none :: .op (POper.mk (some 9) (.un .neg (.tmp 8)) none) none :: .op (POper.mk (some 10) (.bin .xor (.tmp 5) (.tmp 9)) none) none :: .op (POper.mk (some 2) (.move (.tmp 10)) none) none :: []
def field_Zag_w4 : WC := (.region field_Zag_o4_0)
def field_Zag_w3 : WC := (.seq field_Zag_w4 .ret)
def field_Zag_w1 : WC := (.seq field_Zag_w2 field_Zag_w3)
theorem field_Zag_rc : resolveC Try.prog [] (Try.f21.body.getD .skip) = some (WC.er field_Zag_w1) := by kernel_rfl
theorem field_Zag_rr : resolveR Try.prog Try.f21.results.toList = some [(.move (.tmp 2))] := by kernel_rfl
def field_Zag (v0 : Int) (Q : Int → Prop) : Prop := Run Try.prog 0 (FinS Try.prog 0 Try.f21 (field_Zag_R Q)) [.code field_Zag_w1] [(.int .u64 v0), .und, .und, .und, .und, .und, .und, .und, .und, .und, .und] []
theorem field_Zag_step (v0 : Int) {Q : Int → Prop} (h :
    (0 ≤ (1 : Int)) ∧
    field_Zag_ret Q (xorK .i64 (convK .i64 (shrK .u64 v0 1)) (negK .i64 (convK .i64 (andK .u64 v0 1))))) : field_Zag v0 Q :=
  adv_go 6000 mixed field_Zag_rr (fa := [.gc]) (by kernel_rfl) h
theorem field_Zag_act (v0 : Int) {Q : Int → Prop} (h : field_Zag v0 Q) : ACT Try.prog 21 [(.int .u64 v0)] [] (field_Zag_R Q) :=
  act_go Try.func21 (by rfl) (by kernel_rfl) field_Zag_rc (n0 := 0) rfl (by kernel_rfl) h
theorem field_Zag_ok (v0 : Int) (r : Int) (h : field_Zag v0 (fun x => x = r)) : ACT Try.prog 21 [(.int .u64 v0)] [] (fun tv tL => tv = field_Zag_enc r ∧ tL = field_Zag_obj r) := act_det (field_Zag_act v0 h)

/-! drover/droverlaw01.FieldUints -/
def law01_FieldUints_enc  : Bool → TV := fun r => (.bool r)
def law01_FieldUints_obj  : Bool → List TO := fun r => []
def law01_FieldUints_R  (Q : Bool → Prop) : TV → List TO → Prop := RetR (law01_FieldUints_enc) (law01_FieldUints_obj) Q
def law01_FieldUints_ret  (Q : Bool → Prop) (r : Bool) : Prop := law01_FieldUints_R Q (law01_FieldUints_enc r) (law01_FieldUints_obj r)
theorem law01_FieldUints_ret.intro  {Q : Bool → Prop} {r : Bool} (h : Q r) : law01_FieldUints_ret Q r := RetR.intro h
def law01_FieldUints_o2_0 : List WOp := .op (POper.mk (some 6) (.move (.const (.bool false))) none) none :: []
def law01_FieldUints_w2 : WC := (.region law01_FieldUints_o2_0)
def law01_FieldUints_o5_0 : List WOp := .op (POper.mk (some 11) (.move (.tmp 0)) none) none :: .op (POper.mk (some 12) (.len (.tmp 11)) none) none :: .op (POper.mk (some 13) (.bin .gtr (.tmp 12) (.const (.int .i64 5000))) none) none :: []
def law01_FieldUints_w5 : WC := (.region law01_FieldUints_o5_0)
def law01_FieldUints_o8_1 : List WOp := .op (POper.mk (some 6) (.move (.tmp 14)) none) none :: []
def law01_FieldUints_o8_0 : List WOp := .ann [.mask [], .gc] :: .op (POper.mk (some 14) (.callf 10 []) none) none :: law01_FieldUints_o8_1
def law01_FieldUints_w8 : WC := (.region law01_FieldUints_o8_0)
def law01_FieldUints_w7 : WC := (.seq law01_FieldUints_w8 .ret)
def law01_FieldUints_w6 : WC := (.cond (.tmp 13) law01_FieldUints_w7 .skip)
def law01_FieldUints_w4 : WC := (.seq law01_FieldUints_w5 law01_FieldUints_w6)
def law01_FieldUints_o12_2 : List WOp := .op (POper.mk (some 15) (.move (.tmp 17)) none) none :: .op (POper.mk (some 18) (.extract (.tmp 15) 0) none) none :: .op (POper.mk (some 19) (.extract (.tmp 15) 1) none) none :: .op (POper.mk (some 7) (.move (.tmp 18)) none) none :: .op (POper.mk (some 8) (.move (.tmp 19)) none) none :: []
def law01_FieldUints_o12_0 : List WOp := .op (POper.mk (some 16) (.move (.tmp 0)) none) none :: .ann [.mask [0, 1, 2, 16], .gc] :: .op (POper.mk (some 17) (.callf 15 [(.tmp 16)]) none) none :: law01_FieldUints_o12_2
def law01_FieldUints_w12 : WC := (.region law01_FieldUints_o12_0)
def law01_FieldUints_o14_2 : List WOp := .op (POper.mk (some 20) (.move (.tmp 22)) none) none :: .op (POper.mk (some 23) (.extract (.tmp 20) 0) none) none :: .op (POper.mk (some 24) (.extract (.tmp 20) 1) none) none :: .op (POper.mk (some 9) (.move (.tmp 23)) none) none :: .op (POper.mk (some 10) (.move (.tmp 24)) none) none :: []
def law01_FieldUints_o14_0 : List WOp := .op (POper.mk (some 21) (.move (.tmp 0)) none) none :: .ann [.mask [0, 1, 2, 7, 8, 21], .gc] :: .op (POper.mk (some 22) (.callf 16 [(.tmp 21)]) none) none :: law01_FieldUints_o14_2
def law01_FieldUints_w14 : WC := (.region law01_FieldUints_o14_0)
def law01_FieldUints_o16_35 : List WOp := .op (POper.mk (some 60) (.pick (.tmp 58) (.tmp 59) (.const (.bool false))) none) none :: .op (POper.mk (some 6) (.move (.tmp 60)) none) none :: []
def law01_FieldUints_o16_31 : List WOp := .op (POper.mk (some 56) (.bin .eql (.tmp 53) (.tmp 55)) (some (51, true))) none :: .op (POper.mk (some 57) (.pick (.tmp 51) (.tmp 56) (.const (.bool false))) none) none :: .op (POper.mk (some 58) (.move (.tmp 57)) none) none :: .op (POper.mk (some 59) (.callf 10 []) (some (58, true))) none :: law01_FieldUints_o16_35
def law01_FieldUints_o16_29 : List WOp := .op (POper.mk (some 54) (.move (.tmp 1)) (some (51, true))) none :: .op (POper.mk (some 55) (.callf 22 [(.tmp 54)]) (some (51, true))) none :: law01_FieldUints_o16_31
def law01_FieldUints_o16_24 : List WOp := .op (POper.mk (some 49) (.bin .eql (.tmp 46) (.tmp 48)) (some (44, true))) none :: .op (POper.mk (some 50) (.pick (.tmp 44) (.tmp 49) (.const (.bool false))) none) none :: .op (POper.mk (some 51) (.move (.tmp 50)) none) none :: .op (POper.mk (some 52) (.move (.tmp 1)) (some (51, true))) none :: .op (POper.mk (some 53) (.callf 21 [(.tmp 52)]) (some (51, true))) none :: law01_FieldUints_o16_29
def law01_FieldUints_o16_22 : List WOp := .op (POper.mk (some 47) (.move (.tmp 2)) (some (44, true))) none :: .op (POper.mk (some 48) (.callf 20 [(.tmp 47)]) (some (44, true))) none :: law01_FieldUints_o16_24
def law01_FieldUints_o16_7 : List WOp := .op (POper.mk (some 32) (.b2s (.tmp 31)) none) none :: .op (POper.mk (some 33) (.bin .eql (.tmp 28) (.tmp 32)) none) none :: .op (POper.mk (some 34) (.move (.tmp 33)) none) none :: .op (POper.mk (some 35) (.move (.tmp 7)) (some (34, true))) none :: .op (POper.mk (some 36) (.move (.tmp 9)) (some (34, true))) none :: .op (POper.mk (some 37) (.bin .eql (.tmp 35) (.tmp 36)) (some (34, true))) none :: .op (POper.mk (some 38) (.pick (.tmp 34) (.tmp 37) (.const (.bool false))) none) none :: .op (POper.mk (some 39) (.move (.tmp 38)) none) none :: .op (POper.mk (some 40) (.move (.tmp 8)) (some (39, true))) none :: .op (POper.mk (some 41) (.move (.tmp 10)) (some (39, true))) none :: .op (POper.mk (some 42) (.bin .eql (.tmp 40) (.tmp 41)) (some (39, true))) none :: .op (POper.mk (some 43) (.pick (.tmp 39) (.tmp 42) (.const (.bool false))) none) none :: .op (POper.mk (some 44) (.move (.tmp 43)) none) none :: .op (POper.mk (some 45) (.move (.tmp 2)) (some (44, true))) none :: .op (POper.mk (some 46) (.callf 19 [(.tmp 45)]) (some (44, true))) none :: law01_FieldUints_o16_22
def law01_FieldUints_o16_3 : List WOp := .op (POper.mk (some 28) (.b2s (.tmp 27)) none) none :: .op (POper.mk (some 29) (.move (.tmp 0)) none) none :: .op (POper.mk (some 30) (.move (.tmp 1)) none) none :: .op (POper.mk (some 31) (.callf 18 [(.tmp 29), (.tmp 30)]) none) none :: law01_FieldUints_o16_7
def law01_FieldUints_o16_0 : List WOp := .op (POper.mk (some 25) (.move (.tmp 0)) none) none :: .op (POper.mk (some 26) (.move (.tmp 1)) none) none :: .op (POper.mk (some 27) (.callf 17 [(.tmp 25), (.tmp 26)]) none) none :: law01_FieldUints_o16_3
def law01_FieldUints_e16 : List (List Nat) := [[], [], [0, 1], [2, 0, 1], [], [], [4, 5, 2, 0, 1], [6, 4, 5, 2, 0, 1], [3, 2, 0, 1, 7, 6, 4, 5], [8, 3, 2, 0, 1, 7, 6, 4, 5], [9, 8, 3, 2, 0, 1, 7, 6, 4, 5], [9, 8, 3, 2, 0, 1, 7, 6, 4, 5], [10, 9, 8, 3, 2, 0, 1, 7, 6, 4, 5, 11], [9, 8, 3, 2, 0, 1, 7, 6, 4, 5, 12, 10, 11], [13, 9, 8, 3, 2, 0, 1, 7, 6, 4, 5, 12, 10, 11], [14, 13, 9, 8, 3, 2, 0, 1, 7, 6, 4, 5, 12, 10, 11], [14, 13, 9, 8, 3, 2, 0, 1, 7, 6, 4, 5, 12, 10, 11], [15, 14, 13, 9, 8, 3, 2, 0, 1, 7, 6, 4, 5, 12, 10, 11, 16], [14, 13, 9, 8, 3, 2, 0, 1, 7, 6, 4, 5, 12, 10, 11, 17, 15, 16], [18, 14, 13, 9, 8, 3, 2, 0, 1, 7, 6, 4, 5, 12, 10, 11, 17, 15, 16], [19, 18, 14, 13, 9, 8, 3, 2, 0, 1, 7, 6, 4, 5, 12, 10, 11, 17, 15, 16], [20, 19, 18, 14, 13, 9, 8, 3, 2, 0, 1, 7, 6, 4, 5, 12, 10, 11, 17, 15, 16], [19, 18, 14, 13, 9, 8, 3, 2, 0, 1, 7, 6, 4, 5, 12, 10, 11, 17, 15, 16], [22, 19, 18, 14, 13, 9, 8, 3, 2, 0, 1, 7, 6, 4, 5, 12, 10, 11, 17, 15, 16, 21, 20], [21, 20, 19, 18, 14, 13, 9, 8, 3, 2, 0, 1, 7, 6, 4, 5, 12, 10, 11, 17, 15, 16, 23, 22], [19, 18, 14, 13, 9, 8, 3, 2, 0, 1, 7, 6, 4, 5, 12, 10, 11, 17, 15, 16, 24, 21, 20, 23, 22], [25, 19, 18, 14, 13, 9, 8, 3, 2, 0, 1, 7, 6, 4, 5, 12, 10, 11, 17, 15, 16, 24, 21, 20, 23, 22], [26, 25, 19, 18, 14, 13, 9, 8, 3, 2, 0, 1, 7, 6, 4, 5, 12, 10, 11, 17, 15, 16, 24, 21, 20, 23, 22], [27, 26, 25, 19, 18, 14, 13, 9, 8, 3, 2, 0, 1, 7, 6, 4, 5, 12, 10, 11, 17, 15, 16, 24, 21, 20, 23, 22], [26, 25, 19, 18, 14, 13, 9, 8, 3, 2, 0, 1, 7, 6, 4, 5, 12, 10, 11, 17, 15, 16, 24, 21, 20, 23, 22], [29, 26, 25, 19, 18, 14, 13, 9, 8, 3, 2, 0, 1, 7, 6, 4, 5, 12, 10, 11, 17, 15, 16, 24, 21, 20, 23, 22, 28, 27], [28, 27, 26, 25, 19, 18, 14, 13, 9, 8, 3, 2, 0, 1, 7, 6, 4, 5, 12, 10, 11, 17, 15, 16, 24, 21, 20, 23, 22, 30, 29], [26, 25, 19, 18, 14, 13, 9, 8, 3, 2, 0, 1, 7, 6, 4, 5, 12, 10, 11, 17, 15, 16, 24, 21, 20, 23, 22, 31, 28, 27, 30, 29], [32, 26, 25, 19, 18, 14, 13, 9, 8, 3, 2, 0, 1, 7, 6, 4, 5, 12, 10, 11, 17, 15, 16, 24, 21, 20, 23, 22, 31, 28, 27, 30, 29], [33, 32, 26, 25, 19, 18, 14, 13, 9, 8, 3, 2, 0, 1, 7, 6, 4, 5, 12, 10, 11, 17, 15, 16, 24, 21, 20, 23, 22, 31, 28, 27, 30, 29], [33, 32, 26, 25, 19, 18, 14, 13, 9, 8, 3, 2, 0, 1, 7, 6, 4, 5, 12, 10, 11, 17, 15, 16, 24, 21, 20, 23, 22, 31, 28, 27, 30, 29, 34], [35, 33, 32, 26, 25, 19, 18, 14, 13, 9, 8, 3, 2, 0, 1, 7, 6, 4, 5, 12, 10, 11, 17, 15, 16, 24, 21, 20, 23, 22, 31, 28, 27, 30, 29, 34]]
def law01_FieldUints_w16 : WC := (.dregion law01_FieldUints_o16_0 law01_FieldUints_e16)
def law01_FieldUints_w15 : WC := (.seq law01_FieldUints_w16 .ret)
def law01_FieldUints_w13 : WC := (.seq law01_FieldUints_w14 law01_FieldUints_w15)
def law01_FieldUints_w11 : WC := (.seq law01_FieldUints_w12 law01_FieldUints_w13)
def law01_FieldUints_w3 : WC := (.seq law01_FieldUints_w4 law01_FieldUints_w11)
def law01_FieldUints_w1 : WC := (.seq law01_FieldUints_w2 law01_FieldUints_w3)
theorem law01_FieldUints_rc : resolveC Try.prog [] (Try.f4.body.getD .skip) = some (WC.er law01_FieldUints_w1) := by kernel_rfl
theorem law01_FieldUints_rr : resolveR Try.prog Try.f4.results.toList = some [(.move (.tmp 6))] := by kernel_rfl
def law01_FieldUints (b0 : List Int) (v1 : Int) (n2 : Int) (Q : Bool → Prop) : Prop := Run Try.prog 0 (FinS Try.prog 0 Try.f4 (law01_FieldUints_R Q)) [.code law01_FieldUints_w1] [(.sl eU8 b0), (.int .u64 v1), (.int .i64 n2), .und, .und, .und, .und, .und, .und, .und, .und, .und, .und, .und, .und, .und, .und, .und, .und, .und, .und, .und, .und, .und, .und, .und, .und, .und, .und, .und, .und, .und, .und, .und, .und, .und, .und, .und, .und, .und, .und, .und, .und, .und, .und, .und, .und, .und, .und, .und, .und, .und, .und, .und, .und, .und, .und, .und, .und, .und, .und] []
def law01_FieldUints_c1  (Q : Bool → Prop) : Prop := Run Try.prog 0 (FinS Try.prog 0 Try.f4 (law01_FieldUints_R Q)) [.ops (.op (POper.mk (some 14) (.callf 10 []) none) none :: law01_FieldUints_o8_1), .code .ret, .code law01_FieldUints_w11] [.dead, .dead, .dead, .dead, .dead, .dead, .dead, .dead, .dead, .dead, .dead, .dead, .dead, .dead, .dead, .dead, .dead, .dead, .dead, .dead, .dead, .dead, .dead, .dead, .dead, .dead, .dead, .dead, .dead, .dead, .dead, .dead, .dead, .dead, .dead, .dead, .dead, .dead, .dead, .dead, .dead, .dead, .dead, .dead, .dead, .dead, .dead, .dead, .dead, .dead, .dead, .dead, .dead, .dead, .dead, .dead, .dead, .dead, .dead, .dead, .dead] []
def law01_FieldUints_c2 (b0 : List Int) (v1 : Int) (n2 : Int) (Q : Bool → Prop) : Prop := Run Try.prog 0 (FinS Try.prog 0 Try.f4 (law01_FieldUints_R Q)) [.ops (.op (POper.mk (some 17) (.callf 15 [(.tmp 16)]) none) none :: law01_FieldUints_o12_2), .code law01_FieldUints_w13] [(.sl eU8 b0), (.int .u64 v1), (.int .i64 n2), .dead, .dead, .dead, .dead, .dead, .dead, .dead, .dead, .dead, .dead, .dead, .dead, .dead, (.sl eU8 b0), .dead, .dead, .dead, .dead, .dead, .dead, .dead, .dead, .dead, .dead, .dead, .dead, .dead, .dead, .dead, .dead, .dead, .dead, .dead, .dead, .dead, .dead, .dead, .dead, .dead, .dead, .dead, .dead, .dead, .dead, .dead, .dead, .dead, .dead, .dead, .dead, .dead, .dead, .dead, .dead, .dead, .dead, .dead, .dead] []
def law01_FieldUints_c3 (b0 : List Int) (v1 : Int) (n2 : Int) (r4 : Int × Int) (Q : Bool → Prop) : Prop := Run Try.prog 0 (FinS Try.prog 0 Try.f4 (law01_FieldUints_R Q)) [.ops (.op (POper.mk (some 22) (.callf 16 [(.tmp 21)]) none) none :: law01_FieldUints_o14_2), .code law01_FieldUints_w15] [(.sl eU8 b0), (.int .u64 v1), (.int .i64 n2), .dead, .dead, .dead, .dead, (.int .u64 r4.1), (.int .i64 r4.2), .dead, .dead, .dead, .dead, .dead, .dead, .dead, .dead, .dead, .dead, .dead, .dead, (.sl eU8 b0), .dead, .dead, .dead, .dead, .dead, .dead, .dead, .dead, .dead, .dead, .dead, .dead, .dead, .dead, .dead, .dead, .dead, .dead, .dead, .dead, .dead, .dead, .dead, .dead, .dead, .dead, .dead, .dead, .dead, .dead, .dead, .dead, .dead, .dead, .dead, .dead, .dead, .dead, .dead] []
def law01_FieldUints_c4 (b0 : List Int) (v1 : Int) (n2 : Int) (r4 : Int × Int) (r5 : Int × Int) (Q : Bool → Prop) : Prop := Run Try.prog 0 (FinS Try.prog 0 Try.f4 (law01_FieldUints_R Q)) [.dops (.op (POper.mk (some 27) (.callf 17 [(.tmp 25), (.tmp 26)]) none) none :: law01_FieldUints_o16_3) law01_FieldUints_e16 [([], []), ([], [])], .code .ret] [(.sl eU8 b0), (.int .u64 v1), (.int .i64 n2), .dead, .dead, .dead, .dead, (.int .u64 r4.1), (.int .i64 r4.2), (.int .u64 r5.1), (.int .i64 r5.2), .dead, .dead, .dead, .dead, .dead, .dead, .dead, .dead, .dead, (.tup [(.int .u64 r5.1), (.int .i64 r5.2)]), (.sl eU8 b0), (.tup [(.int .u64 r5.1), (.int .i64 r5.2)]), (.int .u64 r5.1), (.int .i64 r5.2), (.sl eU8 b0), (.int .u64 v1), .dead, .dead, .dead, .dead, .dead, .dead, .dead, .dead, .dead, .dead, .dead, .dead, .dead, .dead, .dead, .dead, .dead, .dead, .dead, .dead, .dead, .dead, .dead, .dead, .dead, .dead, .dead, .dead, .dead, .dead, .dead, .dead, .dead, .dead] []
def law01_FieldUints_c5 (b0 : List Int) (v1 : Int) (n2 : Int) (r4 : Int × Int) (r5 : Int × Int) (r6 : List Int) (Q : Bool → Prop) : Prop := Run Try.prog 0 (FinS Try.prog 0 Try.f4 (law01_FieldUints_R Q)) [.dops (.op (POper.mk (some 31) (.callf 18 [(.tmp 29), (.tmp 30)]) none) none :: law01_FieldUints_o16_7) law01_FieldUints_e16 [([], []), ([], []), ([0], []), ([], [0]), ([], []), ([], [])], .code .ret] [(.sl eU8 b0), (.int .u64 v1), (.int .i64 n2), .dead, .dead, .dead, .dead, (.int .u64 r4.1), (.int .i64 r4.2), (.int .u64 r5.1), (.int .i64 r5.2), .dead, .dead, .dead, .dead, .dead, .dead, .dead, .dead, .dead, (.tup [(.int .u64 r5.1), (.int .i64 r5.2)]), (.sl eU8 b0), (.tup [(.int .u64 r5.1), (.int .i64 r5.2)]), (.int .u64 r5.1), (.int .i64 r5.2), (.sl eU8 b0), (.int .u64 v1), (.vf 0 eU8 r6.length false), (.str (bytesT r6)), (.sl eU8 b0), (.int .u64 v1), .dead, .dead, .dead, .dead, .dead, .dead, .dead, .dead, .dead, .dead, .dead, .dead, .dead, .dead, .dead, .dead, .dead, .dead, .dead, .dead, .dead, .dead, .dead, .dead, .dead, .dead, .dead, .dead, .dead, .dead] [(.vec eU8 r6)]
def law01_FieldUints_c6 (b0 : List Int) (v1 : Int) (n2 : Int) (r4 : Int × Int) (r5 : Int × Int) (r6 : List Int) (r7 : List Int) (Q : Bool → Prop) : Prop := Run Try.prog 0 (FinS Try.prog 0 Try.f4 (law01_FieldUints_R Q)) [.dops (.op (POper.mk (some 46) (.callf 19 [(.tmp 45)]) none) none :: law01_FieldUints_o16_22) law01_FieldUints_e16 [([], []), ([], []), ([0], []), ([], [0]), ([], []), ([], []), ([1], []), ([], [1]), ([], []), ([], []), ([], []), ([], []), ([], []), ([], []), ([], []), ([], []), ([], []), ([], []), ([], []), ([], []), ([], [])], .code .ret] [(.sl eU8 b0), (.int .u64 v1), (.int .i64 n2), .dead, .dead, .dead, .dead, (.int .u64 r4.1), (.int .i64 r4.2), (.int .u64 r5.1), (.int .i64 r5.2), .dead, .dead, .dead, .dead, .dead, .dead, .dead, .dead, .dead, (.tup [(.int .u64 r5.1), (.int .i64 r5.2)]), (.sl eU8 b0), (.tup [(.int .u64 r5.1), (.int .i64 r5.2)]), (.int .u64 r5.1), (.int .i64 r5.2), (.sl eU8 b0), (.int .u64 v1), (.vf 0 eU8 r6.length false), (.str (bytesT r6)), (.sl eU8 b0), (.int .u64 v1), (.vf 1 eU8 r7.length false), (.str (bytesT r7)), (.bool (streq (bytesT r6) (bytesT r7))), (.bool true), (.int .u64 r4.1), (.int .u64 r5.1), (.bool (r4.1 == r5.1)), (.bool (r4.1 == r5.1)), (.bool true), (.int .i64 r4.2), (.int .i64 r5.2), (.bool (r4.2 == r5.2)), (.bool (r4.2 == r5.2)), (.bool true), (.int .i64 n2), .dead, .dead, .dead, .dead, .dead, .dead, .dead, .dead, .dead, .dead, .dead, .dead, .dead, .dead, .dead] [(.vec eU8 r6), (.vec eU8 r7)]
def law01_FieldUints_c7 (b0 : List Int) (v1 : Int) (n2 : Int) (r4 : Int × Int) (r5 : Int × Int) (r6 : List Int) (r7 : List Int) (r8 : Int) (Q : Bool → Prop) : Prop := Run Try.prog 0 (FinS Try.prog 0 Try.f4 (law01_FieldUints_R Q)) [.dops (.op (POper.mk (some 48) (.callf 20 [(.tmp 47)]) none) none :: law01_FieldUints_o16_24) law01_FieldUints_e16 [([], []), ([], []), ([0], []), ([], [0]), ([], []), ([], []), ([1], []), ([], [1]), ([], []), ([], []), ([], []), ([], []), ([], []), ([], []), ([], []), ([], []), ([], []), ([], []), ([], []), ([], []), ([], []), ([], []), ([], [])], .code .ret] [(.sl eU8 b0), (.int .u64 v1), (.int .i64 n2), .dead, .dead, .dead, .dead, (.int .u64 r4.1), (.int .i64 r4.2), (.int .u64 r5.1), (.int .i64 r5.2), .dead, .dead, .dead, .dead, .dead, .dead, .dead, .dead, .dead, (.tup [(.int .u64 r5.1), (.int .i64 r5.2)]), (.sl eU8 b0), (.tup [(.int .u64 r5.1), (.int .i64 r5.2)]), (.int .u64 r5.1), (.int .i64 r5.2), (.sl eU8 b0), (.int .u64 v1), (.vf 0 eU8 r6.length false), (.str (bytesT r6)), (.sl eU8 b0), (.int .u64 v1), (.vf 1 eU8 r7.length false), (.str (bytesT r7)), (.bool (streq (bytesT r6) (bytesT r7))), (.bool true), (.int .u64 r4.1), (.int .u64 r5.1), (.bool (r4.1 == r5.1)), (.bool (r4.1 == r5.1)), (.bool true), (.int .i64 r4.2), (.int .i64 r5.2), (.bool (r4.2 == r5.2)), (.bool (r4.2 == r5.2)), (.bool true), (.int .i64 n2), (.int .u64 r8), (.int .i64 n2), .dead, .dead, .dead, .dead, .dead, .dead, .dead, .dead, .dead, .dead, .dead, .dead, .dead] [(.vec eU8 r6), (.vec eU8 r7)]
def law01_FieldUints_c8 (b0 : List Int) (v1 : Int) (n2 : Int) (r4 : Int × Int) (r5 : Int × Int) (r6 : List Int) (r7 : List Int) (r8 : Int) (r9 : Int) (Q : Bool → Prop) : Prop := Run Try.prog 0 (FinS Try.prog 0 Try.f4 (law01_FieldUints_R Q)) [.dops (.op (POper.mk (some 53) (.callf 21 [(.tmp 52)]) none) none :: law01_FieldUints_o16_29) law01_FieldUints_e16 [([], []), ([], []), ([0], []), ([], [0]), ([], []), ([], []), ([1], []), ([], [1]), ([], []), ([], []), ([], []), ([], []), ([], []), ([], []), ([], []), ([], []), ([], []), ([], []), ([], []), ([], []), ([], []), ([], []), ([], []), ([], []), ([], []), ([], []), ([], []), ([], [])], .code .ret] [(.sl eU8 b0), (.int .u64 v1), (.int .i64 n2), .dead, .dead, .dead, .dead, (.int .u64 r4.1), (.int .i64 r4.2), (.int .u64 r5.1), (.int .i64 r5.2), .dead, .dead, .dead, .dead, .dead, .dead, .dead, .dead, .dead, (.tup [(.int .u64 r5.1), (.int .i64 r5.2)]), (.sl eU8 b0), (.tup [(.int .u64 r5.1), (.int .i64 r5.2)]), (.int .u64 r5.1), (.int .i64 r5.2), (.sl eU8 b0), (.int .u64 v1), (.vf 0 eU8 r6.length false), (.str (bytesT r6)), (.sl eU8 b0), (.int .u64 v1), (.vf 1 eU8 r7.length false), (.str (bytesT r7)), (.bool (streq (bytesT r6) (bytesT r7))), (.bool true), (.int .u64 r4.1), (.int .u64 r5.1), (.bool (r4.1 == r5.1)), (.bool (r4.1 == r5.1)), (.bool true), (.int .i64 r4.2), (.int .i64 r5.2), (.bool (r4.2 == r5.2)), (.bool (r4.2 == r5.2)), (.bool true), (.int .i64 n2), (.int .u64 r8), (.int .i64 n2), (.int .u64 r9), (.bool (r8 == r9)), (.bool (r8 == r9)), (.bool true), (.int .u64 v1), .dead, .dead, .dead, .dead, .dead, .dead, .dead, .dead] [(.vec eU8 r6), (.vec eU8 r7)]
def law01_FieldUints_c9 (b0 : List Int) (v1 : Int) (n2 : Int) (r4 : Int × Int) (r5 : Int × Int) (r6 : List Int) (r7 : List Int) (r8 : Int) (r9 : Int) (r10 : Int) (Q : Bool → Prop) : Prop := Run Try.prog 0 (FinS Try.prog 0 Try.f4 (law01_FieldUints_R Q)) [.dops (.op (POper.mk (some 55) (.callf 22 [(.tmp 54)]) none) none :: law01_FieldUints_o16_31) law01_FieldUints_e16 [([], []), ([], []), ([0], []), ([], [0]), ([], []), ([], []), ([1], []), ([], [1]), ([], []), ([], []), ([], []), ([], []), ([], []), ([], []), ([], []), ([], []), ([], []), ([], []), ([], []), ([], []), ([], []), ([], []), ([], []), ([], []), ([], []), ([], []), ([], []), ([], []), ([], []), ([], [])], .code .ret] [(.sl eU8 b0), (.int .u64 v1), (.int .i64 n2), .dead, .dead, .dead, .dead, (.int .u64 r4.1), (.int .i64 r4.2), (.int .u64 r5.1), (.int .i64 r5.2), .dead, .dead, .dead, .dead, .dead, .dead, .dead, .dead, .dead, (.tup [(.int .u64 r5.1), (.int .i64 r5.2)]), (.sl eU8 b0), (.tup [(.int .u64 r5.1), (.int .i64 r5.2)]), (.int .u64 r5.1), (.int .i64 r5.2), (.sl eU8 b0), (.int .u64 v1), (.vf 0 eU8 r6.length false), (.str (bytesT r6)), (.sl eU8 b0), (.int .u64 v1), (.vf 1 eU8 r7.length false), (.str (bytesT r7)), (.bool (streq (bytesT r6) (bytesT r7))), (.bool true), (.int .u64 r4.1), (.int .u64 r5.1), (.bool (r4.1 == r5.1)), (.bool (r4.1 == r5.1)), (.bool true), (.int .i64 r4.2), (.int .i64 r5.2), (.bool (r4.2 == r5.2)), (.bool (r4.2 == r5.2)), (.bool true), (.int .i64 n2), (.int .u64 r8), (.int .i64 n2), (.int .u64 r9), (.bool (r8 == r9)), (.bool (r8 == r9)), (.bool true), (.int .u64 v1), (.int .i64 r10), (.int .u64 v1), .dead, .dead, .dead, .dead, .dead, .dead] [(.vec eU8 r6), (.vec eU8 r7)]
def law01_FieldUints_c10 (b0 : List Int) (v1 : Int) (n2 : Int) (r4 : Int × Int) (r5 : Int × Int) (r6 : List Int) (r7 : List Int) (r8 : Int) (r9 : Int) (r10 : Int) (r11 : Int) (Q : Bool → Prop) : Prop := Run Try.prog 0 (FinS Try.prog 0 Try.f4 (law01_FieldUints_R Q)) [.dops (.op (POper.mk (some 59) (.callf 10 []) none) none :: law01_FieldUints_o16_35) law01_FieldUints_e16 [([], []), ([], []), ([0], []), ([], [0]), ([], []), ([], []), ([1], []), ([], [1]), ([], []), ([], []), ([], []), ([], []), ([], []), ([], []), ([], []), ([], []), ([], []), ([], []), ([], []), ([], []), ([], []), ([], []), ([], []), ([], []), ([], []), ([], []), ([], []), ([], []), ([], []), ([], []), ([], []), ([], []), ([], []), ([], [])], .code .ret] [(.sl eU8 b0), (.int .u64 v1), (.int .i64 n2), .dead, .dead, .dead, .dead, (.int .u64 r4.1), (.int .i64 r4.2), (.int .u64 r5.1), (.int .i64 r5.2), .dead, .dead, .dead, .dead, .dead, .dead, .dead, .dead, .dead, (.tup [(.int .u64 r5.1), (.int .i64 r5.2)]), (.sl eU8 b0), (.tup [(.int .u64 r5.1), (.int .i64 r5.2)]), (.int .u64 r5.1), (.int .i64 r5.2), (.sl eU8 b0), (.int .u64 v1), (.vf 0 eU8 r6.length false), (.str (bytesT r6)), (.sl eU8 b0), (.int .u64 v1), (.vf 1 eU8 r7.length false), (.str (bytesT r7)), (.bool (streq (bytesT r6) (bytesT r7))), (.bool true), (.int .u64 r4.1), (.int .u64 r5.1), (.bool (r4.1 == r5.1)), (.bool (r4.1 == r5.1)), (.bool true), (.int .i64 r4.2), (.int .i64 r5.2), (.bool (r4.2 == r5.2)), (.bool (r4.2 == r5.2)), (.bool true), (.int .i64 n2), (.int .u64 r8), (.int .i64 n2), (.int .u64 r9), (.bool (r8 == r9)), (.bool (r8 == r9)), (.bool true), (.int .u64 v1), (.int .i64 r10), (.int .u64 v1), (.int .i64 r11), (.bool (r10 == r11)), (.bool (r10 == r11)), (.bool true), .dead, .dead] [(.vec eU8 r6), (.vec eU8 r7)]
theorem law01_FieldUints_step (b0 : List Int) (v1 : Int) (n2 : Int) {Q : Bool → Prop} (h :
    Br (decide ((b0.length : Int) > 5000))
      (law01_FieldUints_c1 Q)
      (law01_FieldUints_c2 b0 v1 n2 Q)) : law01_FieldUints b0 v1 n2 Q :=
  adv_go 6000 mixed law01_FieldUints_rr (fa := [.gc]) (by kernel_rfl) h
theorem law01_FieldUints_c1_step  {Q : Bool → Prop} (r3 : Bool) (hc : law01_lives (fun x => x = r3)) (h :
    law01_FieldUints_ret Q r3) : law01_FieldUints_c1 Q :=
  run_callf (tout := (lendOut [] 0 (law01_lives_enc r3) (law01_lives_obj r3))) (call_typed [] (law01_lives_ok r3 hc) (by kernel_rfl) (by kernel_rfl) (by kernel_rfl)) (adv_go 6000 mixed law01_FieldUints_rr (fa := [.gc]) (by kernel_rfl) h)
theorem law01_FieldUints_c2_step (b0 : List Int) (v1 : Int) (n2 : Int) {Q : Bool → Prop} (r4 : Int × Int) (hc : field_GetUint b0 (fun x => x = r4)) (h :
    law01_FieldUints_c3 b0 v1 n2 r4 Q) : law01_FieldUints_c2 b0 v1 n2 Q :=
  run_callf (tout := (lendOut [] 0 (field_GetUint_enc r4) (field_GetUint_obj r4))) (call_typed [] (field_GetUint_ok b0 r4 hc) (by kernel_rfl) (by kernel_rfl) (by kernel_rfl)) (adv_go 6000 mixed law01_FieldUints_rr (fa := [.gc]) (by kernel_rfl) h)
theorem law01_FieldUints_c3_step (b0 : List Int) (v1 : Int) (n2 : Int) (r4 : Int × Int) {Q : Bool → Prop} (r5 : Int × Int) (hc : ref01_GetUint b0 (fun x => x = r5)) (h :
    law01_FieldUints_c4 b0 v1 n2 r4 r5 Q) : law01_FieldUints_c3 b0 v1 n2 r4 Q :=
  run_callf (tout := (lendOut [] 0 (ref01_GetUint_enc r5) (ref01_GetUint_obj r5))) (call_typed [] (ref01_GetUint_ok b0 r5 hc) (by kernel_rfl) (by kernel_rfl) (by kernel_rfl)) (adv_go 6000 mixed law01_FieldUints_rr (fa := [.gc]) (by kernel_rfl) h)
theorem law01_FieldUints_c4_step (b0 : List Int) (v1 : Int) (n2 : Int) (r4 : Int × Int) (r5 : Int × Int) {Q : Bool → Prop} (r6 : List Int) (hc : field_Uint b0 v1 (fun x => x = r6)) (h :
    (r6.length = r6.length) ∧
    law01_FieldUints_c5 b0 v1 n2 r4 r5 r6 Q) : law01_FieldUints_c4 b0 v1 n2 r4 r5 Q :=
  run_dcallf (tout := (lendOut [] 0 (field_Uint_enc r6) (field_Uint_obj r6))) (call_typed [] (field_Uint_ok b0 v1 r6 hc) (by kernel_rfl) (by kernel_rfl) (by kernel_rfl)) (adv_go 6000 mixed law01_FieldUints_rr (fa := [.gc]) (by kernel_rfl) h)
theorem law01_FieldUints_c5_step (b0 : List Int) (v1 : Int) (n2 : Int) (r4 : Int × Int) (r5 : Int × Int) (r6 : List Int) {Q : Bool → Prop} (r7 : List Int) (hc : ref01_Uint b0 v1 (fun x => x = r7)) (h :
    (r7.length = r7.length) ∧
    Br (streq (bytesT r6) (bytesT r7))
      (Br (r4.1 == r5.1)
        (Br (r4.2 == r5.2)
          (law01_FieldUints_c6 b0 v1 n2 r4 r5 r6 r7 Q)
          (law01_FieldUints_ret Q false))
        (law01_FieldUints_ret Q false))
      (law01_FieldUints_ret Q false)) : law01_FieldUints_c5 b0 v1 n2 r4 r5 r6 Q :=
  run_dcallf (tout := (lendOut [] 1 (ref01_Uint_enc r7) (ref01_Uint_obj r7))) (call_typed [] (ref01_Uint_ok b0 v1 r7 hc) (by kernel_rfl) (by kernel_rfl) (by kernel_rfl)) (adv_go 6000 mixed law01_FieldUints_rr (fa := [.gc]) (by kernel_rfl) h)
theorem law01_FieldUints_c6_step (b0 : List Int) (v1 : Int) (n2 : Int) (r4 : Int × Int) (r5 : Int × Int) (r6 : List Int) (r7 : List Int) {Q : Bool → Prop} (r8 : Int) (hc : field_Zig n2 (fun x => x = r8)) (h :
    law01_FieldUints_c7 b0 v1 n2 r4 r5 r6 r7 r8 Q) : law01_FieldUints_c6 b0 v1 n2 r4 r5 r6 r7 Q :=
  run_dcallf (tout := (lendOut [] 2 (field_Zig_enc r8) (field_Zig_obj r8))) (call_typed [] (field_Zig_ok n2 r8 hc) (by kernel_rfl) (by kernel_rfl) (by kernel_rfl)) (adv_go 6000 mixed law01_FieldUints_rr (fa := [.gc]) (by kernel_rfl) h)
theorem law01_FieldUints_c7_step (b0 : List Int) (v1 : Int) (n2 : Int) (r4 : Int × Int) (r5 : Int × Int) (r6 : List Int) (r7 : List Int) (r8 : Int) {Q : Bool → Prop} (r9 : Int) (hc : ref01_Zig n2 (fun x => x = r9)) (h :
    Br (r8 == r9)
      (law01_FieldUints_c8 b0 v1 n2 r4 r5 r6 r7 r8 r9 Q)
      (law01_FieldUints_ret Q false)) : law01_FieldUints_c7 b0 v1 n2 r4 r5 r6 r7 r8 Q :=
  run_dcallf (tout := (lendOut [] 2 (ref01_Zig_enc r9) (ref01_Zig_obj r9))) (call_typed [] (ref01_Zig_ok n2 r9 hc) (by kernel_rfl) (by kernel_rfl) (by kernel_rfl)) (adv_go 6000 mixed law01_FieldUints_rr (fa := [.gc]) (by kernel_rfl) h)
theorem law01_FieldUints_c8_step (b0 : List Int) (v1 : Int) (n2 : Int) (r4 : Int × Int) (r5 : Int × Int) (r6 : List Int) (r7 : List Int) (r8 : Int) (r9 : Int) {Q : Bool → Prop} (r10 : Int) (hc : field_Zag v1 (fun x => x = r10)) (h :
    law01_FieldUints_c9 b0 v1 n2 r4 r5 r6 r7 r8 r9 r10 Q) : law01_FieldUints_c8 b0 v1 n2 r4 r5 r6 r7 r8 r9 Q :=
  run_dcallf (tout := (lendOut [] 2 (field_Zag_enc r10) (field_Zag_obj r10))) (call_typed [] (field_Zag_ok v1 r10 hc) (by kernel_rfl) (by kernel_rfl) (by kernel_rfl)) (adv_go 6000 mixed law01_FieldUints_rr (fa := [.gc]) (by kernel_rfl) h)
theorem law01_FieldUints_c9_step (b0 : List Int) (v1 : Int) (n2 : Int) (r4 : Int × Int) (r5 : Int × Int) (r6 : List Int) (r7 : List Int) (r8 : Int) (r9 : Int) (r10 : Int) {Q : Bool → Prop} (r11 : Int) (hc : ref01_Zag v1 (fun x => x = r11)) (h :
    Br (r10 == r11)
      (law01_FieldUints_c10 b0 v1 n2 r4 r5 r6 r7 r8 r9 r10 r11 Q)
      (law01_FieldUints_ret Q false)) : law01_FieldUints_c9 b0 v1 n2 r4 r5 r6 r7 r8 r9 r10 Q :=
  run_dcallf (tout := (lendOut [] 2 (ref01_Zag_enc r11) (ref01_Zag_obj r11))) (call_typed [] (ref01_Zag_ok v1 r11 hc) (by kernel_rfl) (by kernel_rfl) (by kernel_rfl)) (adv_go 6000 mixed law01_FieldUints_rr (fa := [.gc]) (by kernel_rfl) h)
theorem law01_FieldUints_c10_step (b0 : List Int) (v1 : Int) (n2 : Int) (r4 : Int × Int) (r5 : Int × Int) (r6 : List Int) (r7 : List Int) (r8 : Int) (r9 : Int) (r10 : Int) (r11 : Int) {Q : Bool → Prop} (r12 : Bool) (hc : law01_lives (fun x => x = r12)) (h :
    law01_FieldUints_ret Q r12) : law01_FieldUints_c10 b0 v1 n2 r4 r5 r6 r7 r8 r9 r10 r11 Q :=
  run_dcallf (tout := (lendOut [] 2 (law01_lives_enc r12) (law01_lives_obj r12))) (call_typed [] (law01_lives_ok r12 hc) (by kernel_rfl) (by kernel_rfl) (by kernel_rfl)) (adv_go 6000 mixed law01_FieldUints_rr (fa := [.gc]) (by kernel_rfl) h)
theorem law01_FieldUints_act (b0 : List Int) (v1 : Int) (n2 : Int) {Q : Bool → Prop} (h : law01_FieldUints b0 v1 n2 Q) : ACT Try.prog 4 [(.sl eU8 b0), (.int .u64 v1), (.int .i64 n2)] [] (law01_FieldUints_R Q) :=
  act_go Try.func4 (by rfl) (by kernel_rfl) law01_FieldUints_rc (n0 := 0) rfl (by kernel_rfl) h
theorem law01_FieldUints_ok (b0 : List Int) (v1 : Int) (n2 : Int) (r : Bool) (h : law01_FieldUints b0 v1 n2 (fun x => x = r)) : ACT Try.prog 4 [(.sl eU8 b0), (.int .u64 v1), (.int .i64 n2)] [] (fun tv tL => tv = law01_FieldUints_enc r ∧ tL = law01_FieldUints_obj r) := act_det (law01_FieldUints_act b0 v1 n2 h)

/-! drover/field.Uint -/
def field_Uint_v1_enc  : List Int → TV := fun r => (.sl eU8 r)
def field_Uint_v1_obj  : List Int → List TO := fun r => []
def field_Uint_v1_R  (Q : List Int → Prop) : TV → List TO → Prop := RetR (field_Uint_v1_enc) (field_Uint_v1_obj) Q
def field_Uint_v1_ret  (Q : List Int → Prop) (r : List Int) : Prop := field_Uint_v1_R Q (field_Uint_v1_enc r) (field_Uint_v1_obj r)
theorem field_Uint_v1_ret.intro  {Q : List Int → Prop} {r : List Int} (h : Q r) : field_Uint_v1_ret Q r := RetR.intro h
def field_Uint_v1_o2_0 : List WOp := .op (POper.mk (some 4) (.move (.const (.slice .none 0 0))) none) none :: []
def field_Uint_v1_w2 : WC := (.region field_Uint_v1_o2_0)
def field_Uint_v1_o4_2 : List WOp := .op (POper.mk (some 0) (.move (.tmp 6)) none) none :: []
def field_Uint_v1_o4_0 : List WOp := .op (POper.mk (some 5) (.move (.tmp 0)) none) none :: .ann [.mask [1, 5], .gc] :: .op (POper.mk (some 6) (.callf 29 [(.tmp 5)]) none) none :: field_Uint_v1_o4_2
def field_Uint_v1_w4 : WC := (.region field_Uint_v1_o4_0)
def field_Uint_v1_o10_0 : List WOp := .op (POper.mk (some 7) (.move (.tmp 1)) none) none :: .op (POper.mk (some 8) (.bin .geq (.tmp 7) (.const (.int .u64 128))) none) none :: []
def field_Uint_v1_w10 : WC := (.region field_Uint_v1_o10_0)
def field_Uint_v1_w11 : WC := (.cond (.tmp 8) .skip (.exit 0))
def field_Uint_v1_w9 : WC := (.seq field_Uint_v1_w10 field_Uint_v1_w11)
def field_Uint_v1_o16_0 : List WOp := .op (POper.mk (some 11) (.move (.tmp 0)) none) none :: .op (POper.mk (some 12) (.move (.tmp 1)) none) none :: .op (POper.mk (some 13) (.conv .u8 (.tmp 12)) none) none :: .op (POper.mk (some 14) (.bin .or (.tmp 13) (.const (.int .u8 128))) none) none :: .op (POper.mk (some 15) (.bslice 1 1 [(.d (.int .u8 0))] [(0, (1, (.tmp 14)))]) none) none :: .op (POper.mk (some 16) (.append 1 1 (.tmp 11) (.tmp 15)) none) (some eU8) :: .op (POper.mk (some 0) (.move (.tmp 16)) none) none :: []
def field_Uint_v1_w16 : WC := (.region field_Uint_v1_o16_0)
def field_Uint_v1_w15 : WC := (.block 1 field_Uint_v1_w16)
def field_Uint_v1_o17_0 : List WOp := .op (POper.mk (some 9) (.move (.tmp 1)) none) none :: .op (POper.mk (some 10) (.bin .shr (.tmp 9) (.const (.int .u64 7))) none) none :: .op (POper.mk (some 1) (.move (.tmp 10)) none) none :: []
def field_Uint_v1_w17 : WC := (.region field_Uint_v1_o17_0)
def field_Uint_v1_w14 : WC := (.seq field_Uint_v1_w15 field_Uint_v1_w17)
def field_Uint_v1_w8 : WC := (.seq field_Uint_v1_w9 field_Uint_v1_w14)
def field_Uint_v1_w7 : WC := (.loop [.mask [0, 1], .gc] field_Uint_v1_w8)
def field_Uint_v1_w6 : WC := (.block 0 (.ann [.mask [0, 1], .gc] field_Uint_v1_w7))
def field_Uint_v1_o19_0 : List WOp := .op (POper.mk (some 17) (.move (.tmp 0)) none) none :: .op (POper.mk (some 18) (.move (.tmp 1)) none) none :: .op (POper.mk (some 19) (.conv .u8 (.tmp 18)) none) none :: .op (POper.mk (some 20) (.bslice 1 1 [(.d (.int .u8 0))] [(0, (1, (.tmp 19)))]) none) none :: .op (POper.mk (some 21) (.append 1 1 (.tmp 17) (.tmp 20)) none) (some eU8) :: .op (POper.mk (some 4) (.move (.tmp 21)) none) none :: []
def field_Uint_v1_w19 : WC := (.region field_Uint_v1_o19_0)
def field_Uint_v1_w18 : WC := (.seq field_Uint_v1_w19 .ret)
def field_Uint_v1_w5 : WC := (.seq field_Uint_v1_w6 field_Uint_v1_w18)
def field_Uint_v1_w3 : WC := (.seq field_Uint_v1_w4 field_Uint_v1_w5)
def field_Uint_v1_w1 : WC := (.seq field_Uint_v1_w2 field_Uint_v1_w3)
theorem field_Uint_v1_rc : resolveC Try.prog [] (Try.f17.body.getD .skip) = some (WC.er field_Uint_v1_w1) := by kernel_rfl
theorem field_Uint_v1_rr : resolveR Try.prog Try.f17.results.toList = some [(.move (.tmp 4))] := by kernel_rfl
def field_Uint_v1 (b0 : List Int) (v1 : Int) (Q : List Int → Prop) : Prop := Run Try.prog 0 (FinS Try.prog 0 Try.f17 (field_Uint_v1_R Q)) [.code field_Uint_v1_w1] [(.sl eU8 b0), (.int .u64 v1), .und, .und, .und, .und, .und, .und, .und, .und, .und, .und, .und, .und, .und, .und, .und, .und, .und, .und, .und, .und] []
def field_Uint_v1_c1 (v1 : Int) (b0 : List Int) (Q : List Int → Prop) : Prop := Run Try.prog 0 (FinS Try.prog 0 Try.f17 (field_Uint_v1_R Q)) [.ops (.op (POper.mk (some 6) (.callf 29 [(.tmp 5)]) none) none :: field_Uint_v1_o4_2), .code field_Uint_v1_w5] [.dead, (.int .u64 v1), .dead, .dead, .dead, (.sl eU8 b0), .dead, .dead, .dead, .dead, .dead, .dead, .dead, .dead, .dead, .dead, .dead, .dead, .dead, .dead, .dead, .dead] []
def field_Uint_v1_l1 (b3 : List Int) (v4 : Int) (Q : List Int → Prop) : Prop := Run Try.prog 0 (FinS Try.prog 0 Try.f17 (field_Uint_v1_R Q)) [.lp [.mask [0, 1], .gc] field_Uint_v1_w8, .bend 0, .code field_Uint_v1_w18] [(.vf 0 eU8 b3.length false), (.int .u64 v4), .dead, .dead, .dead, .dead, .dead, .dead, .dead, .dead, .dead, .dead, .dead, .dead, .dead, .dead, .dead, .dead, .dead, .dead, .dead, .dead] [(.vec eU8 b3)]
theorem field_Uint_v1_step (b0 : List Int) (v1 : Int) {Q : List Int → Prop} (h :
    field_Uint_v1_c1 v1 b0 Q) : field_Uint_v1 b0 v1 Q :=
  adv_go 6000 mixed field_Uint_v1_rr (fa := [.fit (.s 0 []) eU8, .gc]) (by kernel_rfl) h
theorem field_Uint_v1_c1_step (v1 : Int) (b0 : List Int) {Q : List Int → Prop} (r2 : List Int) (hc : slices_Clone_byte_byte b0 (fun x => x = r2)) (h :
    field_Uint_v1_l1 r2 v1 Q) : field_Uint_v1_c1 v1 b0 Q :=
  run_callf (tout := (lendOut [] 0 (slices_Clone_byte_byte_enc r2) (slices_Clone_byte_byte_obj r2))) (call_typed [] (slices_Clone_byte_byte_ok b0 r2 hc) (by kernel_rfl) (by kernel_rfl) (by kernel_rfl)) (adv_go 6000 mixed field_Uint_v1_rr (fa := [.fit (.s 0 []) eU8, .gc]) (by kernel_rfl) h)
theorem field_Uint_v1_l1_step (b3 : List Int) (v4 : Int) {Q : List Int → Prop} (h :
    Br (decide (v4 ≥ 128))
      (((b3.length = b3.length) ∧ (b3.length + 1 ≤ 1099511627776)) ∧
      (0 ≤ (7 : Int)) ∧
      field_Uint_v1_l1 (b3 ++ ([orK .u8 (convK .u8 v4) 128])) (shrK .u64 v4 7) Q)
      (((b3.length = b3.length) ∧ (b3.length + 1 ≤ 1099511627776)) ∧
      ((b3 ++ ([convK .u8 v4])).length = (b3 ++ ([convK .u8 v4])).length) ∧
      field_Uint_v1_ret Q (b3 ++ ([convK .u8 v4])))) : field_Uint_v1_l1 b3 v4 Q :=
  run_loop (adv_go 6000 mixed field_Uint_v1_rr (fa := [.fit (.s 0 []) eU8, .gc]) (by kernel_rfl) h)
theorem field_Uint_v1_act (b0 : List Int) (v1 : Int) {Q : List Int → Prop} (h : field_Uint_v1 b0 v1 Q) : ACT Try.prog 17 [(.sl eU8 b0), (.int .u64 v1)] [] (field_Uint_v1_R Q) :=
  act_go Try.func17 (by rfl) (by kernel_rfl) field_Uint_v1_rc (n0 := 0) rfl (by kernel_rfl) h
theorem field_Uint_v1_ok (b0 : List Int) (v1 : Int) (r : List Int) (h : field_Uint_v1 b0 v1 (fun x => x = r)) : ACT Try.prog 17 [(.sl eU8 b0), (.int .u64 v1)] [] (fun tv tL => tv = field_Uint_v1_enc r ∧ tL = field_Uint_v1_obj r) := act_det (field_Uint_v1_act b0 v1 h)

/-! drover/droverlaw01.FieldNumbers -/
def law01_FieldNumbers_enc  : Bool → TV := fun r => (.bool r)
def law01_FieldNumbers_obj  : Bool → List TO := fun r => []
def law01_FieldNumbers_R  (Q : Bool → Prop) : TV → List TO → Prop := RetR (law01_FieldNumbers_enc) (law01_FieldNumbers_obj) Q
def law01_FieldNumbers_ret  (Q : Bool → Prop) (r : Bool) : Prop := law01_FieldNumbers_R Q (law01_FieldNumbers_enc r) (law01_FieldNumbers_obj r)
theorem law01_FieldNumbers_ret.intro  {Q : Bool → Prop} {r : Bool} (h : Q r) : law01_FieldNumbers_ret Q r := RetR.intro h
def law01_FieldNumbers_o2_0 : List WOp := .op (POper.mk (some 6) (.move (.const (.bool false))) none) none :: []
def law01_FieldNumbers_w2 : WC := (.region law01_FieldNumbers_o2_0)
def law01_FieldNumbers_o4_2 : List WOp := .op (POper.mk (some 7) (.move (.tmp 14)) none) none :: []
def law01_FieldNumbers_o4_0 : List WOp := .op (POper.mk (some 13) (.move (.tmp 0)) none) none :: .ann [.mask [0, 1, 2, 13], .gc] :: .op (POper.mk (some 14) (.callf 17 [(.const (.slice .none 0 0)), (.tmp 13)]) none) none :: law01_FieldNumbers_o4_2
def law01_FieldNumbers_w4 : WC := (.region law01_FieldNumbers_o4_0)
def law01_FieldNumbers_o7_0 : List WOp := .op (POper.mk (some 15) (.move (.tmp 2)) none) none :: .op (POper.mk (some 16) (.len (.tmp 15)) none) none :: .op (POper.mk (some 17) (.bin .gtr (.tmp 16) (.const (.int .i64 2000))) none) none :: .op (POper.mk (some 18) (.move (.tmp 17)) none) none :: .op (POper.mk (some 19) (.move (.tmp 7)) (some (18, false))) none :: .op (POper.mk (some 20) (.len (.tmp 19)) (some (18, false))) none :: .op (POper.mk (some 21) (.bin .lss (.tmp 20) (.const (.int .i64 1))) (some (18, false))) none :: .op (POper.mk (some 22) (.pick (.tmp 18) (.const (.bool true)) (.tmp 21)) none) none :: .op (POper.mk (some 23) (.move (.tmp 22)) none) none :: .op (POper.mk (some 24) (.move (.tmp 7)) (some (23, false))) none :: .op (POper.mk (some 25) (.len (.tmp 24)) (some (23, false))) none :: .op (POper.mk (some 26) (.bin .gtr (.tmp 25) (.const (.int .i64 10))) (some (23, false))) none :: .op (POper.mk (some 27) (.pick (.tmp 23) (.const (.bool true)) (.tmp 26)) none) none :: []
def law01_FieldNumbers_w7 : WC := (.region law01_FieldNumbers_o7_0)
def law01_FieldNumbers_o10_5 : List WOp := .op (POper.mk (some 33) (.pick (.tmp 31) (.tmp 32) (.const (.bool false))) none) none :: .op (POper.mk (some 6) (.move (.tmp 33)) none) none :: []
def law01_FieldNumbers_o10_0 : List WOp := .op (POper.mk (some 28) (.move (.tmp 2)) none) none :: .op (POper.mk (some 29) (.len (.tmp 28)) none) none :: .op (POper.mk (some 30) (.bin .gtr (.tmp 29) (.const (.int .i64 2000))) none) none :: .op (POper.mk (some 31) (.move (.tmp 30)) none) none :: .ann [.mask [31], .gc] :: .op (POper.mk (some 32) (.callf 10 []) (some (31, true))) none :: law01_FieldNumbers_o10_5
def law01_FieldNumbers_w10 : WC := (.region law01_FieldNumbers_o10_0)
def law01_FieldNumbers_w9 : WC := (.seq law01_FieldNumbers_w10 .ret)
def law01_FieldNumbers_w8 : WC := (.cond (.tmp 27) law01_FieldNumbers_w9 .skip)
def law01_FieldNumbers_w6 : WC := (.seq law01_FieldNumbers_w7 (.ann [.mask [0, 1, 2, 7, 27], .gc] (.cut law01_FieldNumbers_w8)))
def law01_FieldNumbers_o14_6 : List WOp := .op (POper.mk (some 34) (.move (.tmp 40)) none) none :: .op (POper.mk (some 41) (.extract (.tmp 34) 0) none) none :: .op (POper.mk (some 42) (.extract (.tmp 34) 1) none) none :: .op (POper.mk (some 8) (.move (.tmp 41)) none) none :: .op (POper.mk (some 9) (.move (.tmp 42)) none) none :: []
def law01_FieldNumbers_o14_0 : List WOp := .op (POper.mk (some 35) (.bslice 1 0 [] []) none) none :: .op (POper.mk (some 36) (.move (.tmp 7)) none) none :: .op (POper.mk (some 37) (.append 1 1 (.tmp 35) (.tmp 36)) none) (some eU8) :: .op (POper.mk (some 38) (.move (.tmp 2)) none) none :: .op (POper.mk (some 39) (.append 1 1 (.tmp 37) (.tmp 38)) none) (some eU8) :: .ann [.mask [0, 1, 7, 39], .fit (.s 39 []) eU8, .gc] :: .op (POper.mk (some 40) (.callf 15 [(.tmp 39)]) none) none :: law01_FieldNumbers_o14_6
def law01_FieldNumbers_w14 : WC := (.region law01_FieldNumbers_o14_0)
def law01_FieldNumbers_o17_20 : List WOp := .op (POper.mk (some 63) (.move (.tmp 0)) (some (59, false))) none :: .op (POper.mk (some 64) (.bin .neq (.tmp 62) (.tmp 63)) (some (59, false))) none :: .op (POper.mk (some 65) (.pick (.tmp 59) (.const (.bool true)) (.tmp 64)) none) none :: []
def law01_FieldNumbers_o17_19 : List WOp := .ann [.mask [0, 7, 59, 61], .gc] :: .op (POper.mk (some 62) (.callf 19 [(.tmp 61)]) (some (59, false))) none :: law01_FieldNumbers_o17_20
def law01_FieldNumbers_o17_13 : List WOp := .op (POper.mk (some 56) (.move (.tmp 1)) (some (52, false))) none :: .op (POper.mk (some 57) (.bin .neq (.tmp 55) (.tmp 56)) (some (52, false))) none :: .op (POper.mk (some 58) (.pick (.tmp 52) (.const (.bool true)) (.tmp 57)) none) none :: .op (POper.mk (some 59) (.move (.tmp 58)) none) none :: .op (POper.mk (some 60) (.move (.tmp 0)) (some (59, false))) none :: .ann [.mask [0, 7, 59, 60], .gc] :: .op (POper.mk (some 61) (.callf 21 [(.tmp 60)]) (some (59, false))) none :: law01_FieldNumbers_o17_19
def law01_FieldNumbers_o17_12 : List WOp := .ann [.mask [0, 1, 7, 52, 54], .gc] :: .op (POper.mk (some 55) (.callf 21 [(.tmp 54)]) (some (52, false))) none :: law01_FieldNumbers_o17_13
def law01_FieldNumbers_o17_0 : List WOp := .op (POper.mk (some 43) (.move (.tmp 8)) none) none :: .op (POper.mk (some 44) (.move (.tmp 0)) none) none :: .op (POper.mk (some 45) (.bin .neq (.tmp 43) (.tmp 44)) none) none :: .op (POper.mk (some 46) (.move (.tmp 45)) none) none :: .op (POper.mk (some 47) (.move (.tmp 9)) (some (46, false))) none :: .op (POper.mk (some 48) (.move (.tmp 7)) (some (46, false))) none :: .op (POper.mk (some 49) (.len (.tmp 48)) (some (46, false))) none :: .op (POper.mk (some 50) (.bin .neq (.tmp 47) (.tmp 49)) (some (46, false))) none :: .op (POper.mk (some 51) (.pick (.tmp 46) (.const (.bool true)) (.tmp 50)) none) none :: .op (POper.mk (some 52) (.move (.tmp 51)) none) none :: .op (POper.mk (some 53) (.move (.tmp 1)) (some (52, false))) none :: .ann [.mask [0, 1, 7, 52, 53], .gc] :: .op (POper.mk (some 54) (.callf 19 [(.tmp 53)]) (some (52, false))) none :: law01_FieldNumbers_o17_12
def law01_FieldNumbers_w17 : WC := (.region law01_FieldNumbers_o17_0)
def law01_FieldNumbers_o20_0 : List WOp := .op (POper.mk (some 6) (.move (.const (.bool false))) none) none :: []
def law01_FieldNumbers_w20 : WC := (.region law01_FieldNumbers_o20_0)
def law01_FieldNumbers_w19 : WC := (.seq law01_FieldNumbers_w20 .ret)
def law01_FieldNumbers_w18 : WC := (.cond (.tmp 65) law01_FieldNumbers_w19 .skip)
def law01_FieldNumbers_w16 : WC := (.seq law01_FieldNumbers_w17 (.ann [.mask [7, 65], .gc] (.cut law01_FieldNumbers_w18)))
def law01_FieldNumbers_o25_0 : List WOp := .op (POper.mk (some 10) (.move (.const (.int .i64 0))) none) none :: []
def law01_FieldNumbers_w25 : WC := (.region law01_FieldNumbers_o25_0)
def law01_FieldNumbers_o30_0 : List WOp := .op (POper.mk (some 66) (.move (.tmp 10)) none) none :: .op (POper.mk (some 67) (.move (.tmp 7)) none) none :: .op (POper.mk (some 68) (.len (.tmp 67)) none) none :: .op (POper.mk (some 69) (.bin .lss (.tmp 66) (.tmp 68)) none) none :: []
def law01_FieldNumbers_w30 : WC := (.region law01_FieldNumbers_o30_0)
def law01_FieldNumbers_w31 : WC := (.cond (.tmp 69) .skip (.exit 0))
def law01_FieldNumbers_w29 : WC := (.seq law01_FieldNumbers_w30 law01_FieldNumbers_w31)
def law01_FieldNumbers_o37_4 : List WOp := .op (POper.mk (some 72) (.move (.tmp 76)) none) none :: .op (POper.mk (some 77) (.extract (.tmp 72) 0) none) none :: .op (POper.mk (some 78) (.extract (.tmp 72) 1) none) none :: .op (POper.mk (some 11) (.move (.tmp 77)) none) none :: .op (POper.mk (some 12) (.move (.tmp 78)) none) none :: []
def law01_FieldNumbers_o37_0 : List WOp := .op (POper.mk (some 73) (.move (.tmp 7)) none) none :: .op (POper.mk (some 74) (.move (.tmp 10)) none) none :: .op (POper.mk (some 75) (.slice 1 (.tmp 73) .none (.some (.tmp 74)) .none) none) none :: .ann [.mask [7, 10, 75], .gc] :: .op (POper.mk (some 76) (.callf 15 [(.tmp 75)]) none) none :: law01_FieldNumbers_o37_4
def law01_FieldNumbers_w37 : WC := (.region law01_FieldNumbers_o37_0)
def law01_FieldNumbers_o39_0 : List WOp := .op (POper.mk (some 79) (.move (.tmp 11)) none) none :: .op (POper.mk (some 80) (.bin .neq (.tmp 79) (.const (.int .u64 0))) none) none :: .op (POper.mk (some 81) (.move (.tmp 80)) none) none :: .op (POper.mk (some 82) (.move (.tmp 12)) (some (81, false))) none :: .op (POper.mk (some 83) (.bin .neq (.tmp 82) (.const (.int .i64 0))) (some (81, false))) none :: .op (POper.mk (some 84) (.pick (.tmp 81) (.const (.bool true)) (.tmp 83)) none) none :: []
def law01_FieldNumbers_w39 : WC := (.region law01_FieldNumbers_o39_0)
def law01_FieldNumbers_o42_0 : List WOp := .op (POper.mk (some 6) (.move (.const (.bool false))) none) none :: []
def law01_FieldNumbers_w42 : WC := (.region law01_FieldNumbers_o42_0)
def law01_FieldNumbers_w41 : WC := (.seq law01_FieldNumbers_w42 .ret)
def law01_FieldNumbers_w40 : WC := (.cond (.tmp 84) law01_FieldNumbers_w41 .skip)
def law01_FieldNumbers_w38 : WC := (.seq law01_FieldNumbers_w39 (.ann [.mask [7, 10, 84], .gc] (.cut law01_FieldNumbers_w40)))
def law01_FieldNumbers_w36 : WC := (.seq law01_FieldNumbers_w37 law01_FieldNumbers_w38)
def law01_FieldNumbers_w35 : WC := (.block 1 law01_FieldNumbers_w36)
def law01_FieldNumbers_o45_0 : List WOp := .op (POper.mk (some 70) (.move (.tmp 10)) none) none :: .op (POper.mk (some 71) (.bin .add (.tmp 70) (.const (.int .i64 1))) none) none :: .op (POper.mk (some 10) (.move (.tmp 71)) none) none :: []
def law01_FieldNumbers_w45 : WC := (.region law01_FieldNumbers_o45_0)
def law01_FieldNumbers_w34 : WC := (.seq law01_FieldNumbers_w35 law01_FieldNumbers_w45)
def law01_FieldNumbers_w28 : WC := (.seq law01_FieldNumbers_w29 law01_FieldNumbers_w34)
def law01_FieldNumbers_w27 : WC := (.loop [.mask [7, 10], .gc] law01_FieldNumbers_w28)
def law01_FieldNumbers_w26 : WC := (.block 0 (.ann [.mask [7, 10], .gc] law01_FieldNumbers_w27))
def law01_FieldNumbers_w24 : WC := (.seq law01_FieldNumbers_w25 law01_FieldNumbers_w26)
def law01_FieldNumbers_o47_1 : List WOp := .op (POper.mk (some 6) (.move (.tmp 85)) none) none :: []
def law01_FieldNumbers_o47_0 : List WOp := .ann [.mask [], .gc] :: .op (POper.mk (some 85) (.callf 10 []) none) none :: law01_FieldNumbers_o47_1
def law01_FieldNumbers_w47 : WC := (.region law01_FieldNumbers_o47_0)
def law01_FieldNumbers_w46 : WC := (.seq law01_FieldNumbers_w47 .ret)
def law01_FieldNumbers_w23 : WC := (.seq law01_FieldNumbers_w24 law01_FieldNumbers_w46)
def law01_FieldNumbers_w15 : WC := (.seq law01_FieldNumbers_w16 (.ann [.mask [7], .gc] (.cut law01_FieldNumbers_w23)))
def law01_FieldNumbers_w13 : WC := (.seq law01_FieldNumbers_w14 law01_FieldNumbers_w15)
def law01_FieldNumbers_w5 : WC := (.seq law01_FieldNumbers_w6 (.ann [.mask [0, 1, 2, 7], .gc] (.cut law01_FieldNumbers_w13)))
def law01_FieldNumbers_w3 : WC := (.seq law01_FieldNumbers_w4 law01_FieldNumbers_w5)
def law01_FieldNumbers_w1 : WC := (.seq law01_FieldNumbers_w2 law01_FieldNumbers_w3)
theorem law01_FieldNumbers_rc : resolveC Try.prog [] (Try.f5.body.getD .skip) = some (WC.er law01_FieldNumbers_w1) := by kernel_rfl
theorem law01_FieldNumbers_rr : resolveR Try.prog Try.f5.results.toList = some [(.move (.tmp 6))] := by kernel_rfl
def law01_FieldNumbers (v0 : Int) (n1 : Int) (rest2 : List Int) (Q : Bool → Prop) : Prop := Run Try.prog 0 (FinS Try.prog 0 Try.f5 (law01_FieldNumbers_R Q)) [.code law01_FieldNumbers_w1] [(.int .u64 v0), (.int .i64 n1), (.sl eU8 rest2), .und, .und, .und, .und, .und, .und, .und, .und, .und, .und, .und, .und, .und, .und, .und, .und, .und, .und, .und, .und, .und, .und, .und, .und, .und, .und, .und, .und, .und, .und, .und, .und, .und, .und, .und, .und, .und, .und, .und, .und, .und, .und, .und, .und, .und, .und, .und, .und, .und, .und, .und, .und, .und, .und, .und, .und, .und, .und, .und, .und, .und, .und, .und, .und, .und, .und, .und, .und, .und, .und, .und, .und, .und, .und, .und, .und, .und, .und, .und, .und, .und, .und, .und] []
def law01_FieldNumbers_c1 (v0 : Int) (n1 : Int) (rest2 : List Int) (Q : Bool → Prop) : Prop := Run Try.prog 0 (FinS Try.prog 0 Try.f5 (law01_FieldNumbers_R Q)) [.ops (.op (POper.mk (some 14) (.callf 17 [(.const (.slice .none 0 0)), (.tmp 13)]) none) none :: law01_FieldNumbers_o4_2), .code law01_FieldNumbers_w5] [(.int .u64 v0), (.int .i64 n1), (.sl eU8 rest2), .dead, .dead, .dead, .dead, .dead, .dead, .dead, .dead, .dead, .dead, (.int .u64 v0), .dead, .dead, .dead, .dead, .dead, .dead, .dead, .dead, .dead, .dead, .dead, .dead, .dead, .dead, .dead, .dead, .dead, .dead, .dead, .dead, .dead, .dead, .dead, .dead, .dead, .dead, .dead, .dead, .dead, .dead, .dead, .dead, .dead, .dead, .dead, .dead, .dead, .dead, .dead, .dead, .dead, .dead, .dead, .dead, .dead, .dead, .dead, .dead, .dead, .dead, .dead, .dead, .dead, .dead, .dead, .dead, .dead, .dead, .dead, .dead, .dead, .dead, .dead, .dead, .dead, .dead, .dead, .dead, .dead, .dead, .dead, .dead] []
def law01_FieldNumbers_k1 (v0 : Int) (n1 : Int) (rest2 : List Int) (r3 : List Int) (x4 : Bool) (Q : Bool → Prop) : Prop := Run Try.prog 0 (FinS Try.prog 0 Try.f5 (law01_FieldNumbers_R Q)) [.code law01_FieldNumbers_w8, .code (.ann [.mask [0, 1, 2, 7], .gc] (.cut law01_FieldNumbers_w13))] [(.int .u64 v0), (.int .i64 n1), (.sl eU8 rest2), .dead, .dead, .dead, .dead, (.sl eU8 r3), .dead, .dead, .dead, .dead, .dead, .dead, .dead, .dead, .dead, .dead, .dead, .dead, .dead, .dead, .dead, .dead, .dead, .dead, .dead, (.bool x4), .dead, .dead, .dead, .dead, .dead, .dead, .dead, .dead, .dead, .dead, .dead, .dead, .dead, .dead, .dead, .dead, .dead, .dead, .dead, .dead, .dead, .dead, .dead, .dead, .dead, .dead, .dead, .dead, .dead, .dead, .dead, .dead, .dead, .dead, .dead, .dead, .dead, .dead, .dead, .dead, .dead, .dead, .dead, .dead, .dead, .dead, .dead, .dead, .dead, .dead, .dead, .dead, .dead, .dead, .dead, .dead, .dead, .dead] []
def law01_FieldNumbers_c2  (Q : Bool → Prop) : Prop := Run Try.prog 0 (FinS Try.prog 0 Try.f5 (law01_FieldNumbers_R Q)) [.ops (.op (POper.mk (some 32) (.callf 10 []) none) none :: law01_FieldNumbers_o10_5), .code .ret, .code (.ann [.mask [0, 1, 2, 7], .gc] (.cut law01_FieldNumbers_w13))] [.dead, .dead, .dead, .dead, .dead, .dead, .dead, .dead, .dead, .dead, .dead, .dead, .dead, .dead, .dead, .dead, .dead, .dead, .dead, .dead, .dead, .dead, .dead, .dead, .dead, .dead, .dead, .dead, .dead, .dead, .dead, (.bool true), .dead, .dead, .dead, .dead, .dead, .dead, .dead, .dead, .dead, .dead, .dead, .dead, .dead, .dead, .dead, .dead, .dead, .dead, .dead, .dead, .dead, .dead, .dead, .dead, .dead, .dead, .dead, .dead, .dead, .dead, .dead, .dead, .dead, .dead, .dead, .dead, .dead, .dead, .dead, .dead, .dead, .dead, .dead, .dead, .dead, .dead, .dead, .dead, .dead, .dead, .dead, .dead, .dead, .dead] []
def law01_FieldNumbers_k2 (v0 : Int) (n1 : Int) (rest2 : List Int) (r3 : List Int) (Q : Bool → Prop) : Prop := Run Try.prog 0 (FinS Try.prog 0 Try.f5 (law01_FieldNumbers_R Q)) [.code law01_FieldNumbers_w13] [(.int .u64 v0), (.int .i64 n1), (.sl eU8 rest2), .dead, .dead, .dead, .dead, (.sl eU8 r3), .dead, .dead, .dead, .dead, .dead, .dead, .dead, .dead, .dead, .dead, .dead, .dead, .dead, .dead, .dead, .dead, .dead, .dead, .dead, .dead, .dead, .dead, .dead, .dead, .dead, .dead, .dead, .dead, .dead, .dead, .dead, .dead, .dead, .dead, .dead, .dead, .dead, .dead, .dead, .dead, .dead, .dead, .dead, .dead, .dead, .dead, .dead, .dead, .dead, .dead, .dead, .dead, .dead, .dead, .dead, .dead, .dead, .dead, .dead, .dead, .dead, .dead, .dead, .dead, .dead, .dead, .dead, .dead, .dead, .dead, .dead, .dead, .dead, .dead, .dead, .dead, .dead, .dead] []
def law01_FieldNumbers_c3 (v0 : Int) (n1 : Int) (r3 : List Int) (rest2 : List Int) (Q : Bool → Prop) : Prop := Run Try.prog 0 (FinS Try.prog 0 Try.f5 (law01_FieldNumbers_R Q)) [.ops (.op (POper.mk (some 40) (.callf 15 [(.tmp 39)]) none) none :: law01_FieldNumbers_o14_6), .code law01_FieldNumbers_w15] [(.int .u64 v0), (.int .i64 n1), .dead, .dead, .dead, .dead, .dead, (.sl eU8 r3), .dead, .dead, .dead, .dead, .dead, .dead, .dead, .dead, .dead, .dead, .dead, .dead, .dead, .dead, .dead, .dead, .dead, .dead, .dead, .dead, .dead, .dead, .dead, .dead, .dead, .dead, .dead, .dead, .dead, .dead, .dead, (.sl eU8 (r3 ++ rest2)), .dead, .dead, .dead, .dead, .dead, .dead, .dead, .dead, .dead, .dead, .dead, .dead, .dead, .dead, .dead, .dead, .dead, .dead, .dead, .dead, .dead, .dead, .dead, .dead, .dead, .dead, .dead, .dead, .dead, .dead, .dead, .dead, .dead, .dead, .dead, .dead, .dead, .dead, .dead, .dead, .dead, .dead, .dead, .dead, .dead, .dead] []
def law01_FieldNumbers_k3 (r3 : List Int) (x7 : Bool) (Q : Bool → Prop) : Prop := Run Try.prog 0 (FinS Try.prog 0 Try.f5 (law01_FieldNumbers_R Q)) [.code law01_FieldNumbers_w18, .code (.ann [.mask [7], .gc] (.cut law01_FieldNumbers_w23))] [.dead, .dead, .dead, .dead, .dead, .dead, .dead, (.sl eU8 r3), .dead, .dead, .dead, .dead, .dead, .dead, .dead, .dead, .dead, .dead, .dead, .dead, .dead, .dead, .dead, .dead, .dead, .dead, .dead, .dead, .dead, .dead, .dead, .dead, .dead, .dead, .dead, .dead, .dead, .dead, .dead, .dead, .dead, .dead, .dead, .dead, .dead, .dead, .dead, .dead, .dead, .dead, .dead, .dead, .dead, .dead, .dead, .dead, .dead, .dead, .dead, .dead, .dead, .dead, .dead, .dead, .dead, (.bool x7), .dead, .dead, .dead, .dead, .dead, .dead, .dead, .dead, .dead, .dead, .dead, .dead, .dead, .dead, .dead, .dead, .dead, .dead, .dead, .dead] []
def law01_FieldNumbers_k4 (r3 : List Int) (Q : Bool → Prop) : Prop := Run Try.prog 0 (FinS Try.prog 0 Try.f5 (law01_FieldNumbers_R Q)) [.code law01_FieldNumbers_w23] [.dead, .dead, .dead, .dead, .dead, .dead, .dead, (.sl eU8 r3), .dead, .dead, .dead, .dead, .dead, .dead, .dead, .dead, .dead, .dead, .dead, .dead, .dead, .dead, .dead, .dead, .dead, .dead, .dead, .dead, .dead, .dead, .dead, .dead, .dead, .dead, .dead, .dead, .dead, .dead, .dead, .dead, .dead, .dead, .dead, .dead, .dead, .dead, .dead, .dead, .dead, .dead, .dead, .dead, .dead, .dead, .dead, .dead, .dead, .dead, .dead, .dead, .dead, .dead, .dead, .dead, .dead, .dead, .dead, .dead, .dead, .dead, .dead, .dead, .dead, .dead, .dead, .dead, .dead, .dead, .dead, .dead, .dead, .dead, .dead, .dead, .dead, .dead] []
def law01_FieldNumbers_l5 (r3 : List Int) (i8 : Int) (Q : Bool → Prop) : Prop := Run Try.prog 0 (FinS Try.prog 0 Try.f5 (law01_FieldNumbers_R Q)) [.lp [.mask [7, 10], .gc] law01_FieldNumbers_w28, .bend 0, .code law01_FieldNumbers_w46] [.dead, .dead, .dead, .dead, .dead, .dead, .dead, (.sl eU8 r3), .dead, .dead, (.int .i64 i8), .dead, .dead, .dead, .dead, .dead, .dead, .dead, .dead, .dead, .dead, .dead, .dead, .dead, .dead, .dead, .dead, .dead, .dead, .dead, .dead, .dead, .dead, .dead, .dead, .dead, .dead, .dead, .dead, .dead, .dead, .dead, .dead, .dead, .dead, .dead, .dead, .dead, .dead, .dead, .dead, .dead, .dead, .dead, .dead, .dead, .dead, .dead, .dead, .dead, .dead, .dead, .dead, .dead, .dead, .dead, .dead, .dead, .dead, .dead, .dead, .dead, .dead, .dead, .dead, .dead, .dead, .dead, .dead, .dead, .dead, .dead, .dead, .dead, .dead, .dead] []
def law01_FieldNumbers_c4 (r3 : List Int) (i8 : Int) (Q : Bool → Prop) : Prop := Run Try.prog 0 (FinS Try.prog 0 Try.f5 (law01_FieldNumbers_R Q)) [.ops (.op (POper.mk (some 76) (.callf 15 [(.tmp 75)]) none) none :: law01_FieldNumbers_o37_4), .code law01_FieldNumbers_w38, .bend 1, .code law01_FieldNumbers_w45, .lp [.mask [7, 10], .gc] law01_FieldNumbers_w28, .bend 0, .code law01_FieldNumbers_w46] [.dead, .dead, .dead, .dead, .dead, .dead, .dead, (.sl eU8 r3), .dead, .dead, (.int .i64 i8), .dead, .dead, .dead, .dead, .dead, .dead, .dead, .dead, .dead, .dead, .dead, .dead, .dead, .dead, .dead, .dead, .dead, .dead, .dead, .dead, .dead, .dead, .dead, .dead, .dead, .dead, .dead, .dead, .dead, .dead, .dead, .dead, .dead, .dead, .dead, .dead, .dead, .dead, .dead, .dead, .dead, .dead, .dead, .dead, .dead, .dead, .dead, .dead, .dead, .dead, .dead, .dead, .dead, .dead, .dead, .dead, .dead, .dead, .dead, .dead, .dead, .dead, .dead, .dead, (.sl eU8 (r3.take i8.toNat)), .dead, .dead, .dead, .dead, .dead, .dead, .dead, .dead, .dead, .dead] []
def law01_FieldNumbers_k6 (r3 : List Int) (i8 : Int) (x10 : Bool) (Q : Bool → Prop) : Prop := Run Try.prog 0 (FinS Try.prog 0 Try.f5 (law01_FieldNumbers_R Q)) [.code law01_FieldNumbers_w40, .bend 1, .code law01_FieldNumbers_w45, .lp [.mask [7, 10], .gc] law01_FieldNumbers_w28, .bend 0, .code law01_FieldNumbers_w46] [.dead, .dead, .dead, .dead, .dead, .dead, .dead, (.sl eU8 r3), .dead, .dead, (.int .i64 i8), .dead, .dead, .dead, .dead, .dead, .dead, .dead, .dead, .dead, .dead, .dead, .dead, .dead, .dead, .dead, .dead, .dead, .dead, .dead, .dead, .dead, .dead, .dead, .dead, .dead, .dead, .dead, .dead, .dead, .dead, .dead, .dead, .dead, .dead, .dead, .dead, .dead, .dead, .dead, .dead, .dead, .dead, .dead, .dead, .dead, .dead, .dead, .dead, .dead, .dead, .dead, .dead, .dead, .dead, .dead, .dead, .dead, .dead, .dead, .dead, .dead, .dead, .dead, .dead, .dead, .dead, .dead, .dead, .dead, .dead, .dead, .dead, .dead, (.bool x10), .dead] []
def law01_FieldNumbers_c5  (Q : Bool → Prop) : Prop := Run Try.prog 0 (FinS Try.prog 0 Try.f5 (law01_FieldNumbers_R Q)) [.ops (.op (POper.mk (some 85) (.callf 10 []) none) none :: law01_FieldNumbers_o47_1), .code .ret] [.dead, .dead, .dead, .dead, .dead, .dead, .dead, .dead, .dead, .dead, .dead, .dead, .dead, .dead, .dead, .dead, .dead, .dead, .dead, .dead, .dead, .dead, .dead, .dead, .dead, .dead, .dead, .dead, .dead, .dead, .dead, .dead, .dead, .dead, .dead, .dead, .dead, .dead, .dead, .dead, .dead, .dead, .dead, .dead, .dead, .dead, .dead, .dead, .dead, .dead, .dead, .dead, .dead, .dead, .dead, .dead, .dead, .dead, .dead, .dead, .dead, .dead, .dead, .dead, .dead, .dead, .dead, .dead, .dead, .dead, .dead, .dead, .dead, .dead, .dead, .dead, .dead, .dead, .dead, .dead, .dead, .dead, .dead, .dead, .dead, .dead] []
def law01_FieldNumbers_c6 (v0 : Int) (n1 : Int) (r3 : List Int) (Q : Bool → Prop) : Prop := Run Try.prog 0 (FinS Try.prog 0 Try.f5 (law01_FieldNumbers_R Q)) [.ops (.op (POper.mk (some 54) (.callf 19 [(.tmp 53)]) none) none :: law01_FieldNumbers_o17_12), .code (.ann [.mask [7, 65], .gc] (.cut law01_FieldNumbers_w18)), .code (.ann [.mask [7], .gc] (.cut law01_FieldNumbers_w23))] [(.int .u64 v0), (.int .i64 n1), .dead, .dead, .dead, .dead, .dead, (.sl eU8 r3), .dead, .dead, .dead, .dead, .dead, .dead, .dead, .dead, .dead, .dead, .dead, .dead, .dead, .dead, .dead, .dead, .dead, .dead, .dead, .dead, .dead, .dead, .dead, .dead, .dead, .dead, .dead, .dead, .dead, .dead, .dead, .dead, .dead, .dead, .dead, .dead, .dead, .dead, .dead, .dead, .dead, .dead, .dead, .dead, (.bool false), (.int .i64 n1), .dead, .dead, .dead, .dead, .dead, .dead, .dead, .dead, .dead, .dead, .dead, .dead, .dead, .dead, .dead, .dead, .dead, .dead, .dead, .dead, .dead, .dead, .dead, .dead, .dead, .dead, .dead, .dead, .dead, .dead, .dead, .dead] []
def law01_FieldNumbers_c7 (v0 : Int) (n1 : Int) (r3 : List Int) (r12 : Int) (Q : Bool → Prop) : Prop := Run Try.prog 0 (FinS Try.prog 0 Try.f5 (law01_FieldNumbers_R Q)) [.ops (.op (POper.mk (some 55) (.callf 21 [(.tmp 54)]) none) none :: law01_FieldNumbers_o17_13), .code (.ann [.mask [7, 65], .gc] (.cut law01_FieldNumbers_w18)), .code (.ann [.mask [7], .gc] (.cut law01_FieldNumbers_w23))] [(.int .u64 v0), (.int .i64 n1), .dead, .dead, .dead, .dead, .dead, (.sl eU8 r3), .dead, .dead, .dead, .dead, .dead, .dead, .dead, .dead, .dead, .dead, .dead, .dead, .dead, .dead, .dead, .dead, .dead, .dead, .dead, .dead, .dead, .dead, .dead, .dead, .dead, .dead, .dead, .dead, .dead, .dead, .dead, .dead, .dead, .dead, .dead, .dead, .dead, .dead, .dead, .dead, .dead, .dead, .dead, .dead, (.bool false), .dead, (.int .u64 r12), .dead, .dead, .dead, .dead, .dead, .dead, .dead, .dead, .dead, .dead, .dead, .dead, .dead, .dead, .dead, .dead, .dead, .dead, .dead, .dead, .dead, .dead, .dead, .dead, .dead, .dead, .dead, .dead, .dead, .dead, .dead] []
def law01_FieldNumbers_c8 (v0 : Int) (r3 : List Int) (Q : Bool → Prop) : Prop := Run Try.prog 0 (FinS Try.prog 0 Try.f5 (law01_FieldNumbers_R Q)) [.ops (.op (POper.mk (some 61) (.callf 21 [(.tmp 60)]) none) none :: law01_FieldNumbers_o17_19), .code (.ann [.mask [7, 65], .gc] (.cut law01_FieldNumbers_w18)), .code (.ann [.mask [7], .gc] (.cut law01_FieldNumbers_w23))] [(.int .u64 v0), .dead, .dead, .dead, .dead, .dead, .dead, (.sl eU8 r3), .dead, .dead, .dead, .dead, .dead, .dead, .dead, .dead, .dead, .dead, .dead, .dead, .dead, .dead, .dead, .dead, .dead, .dead, .dead, .dead, .dead, .dead, .dead, .dead, .dead, .dead, .dead, .dead, .dead, .dead, .dead, .dead, .dead, .dead, .dead, .dead, .dead, .dead, .dead, .dead, .dead, .dead, .dead, .dead, .dead, .dead, .dead, .dead, .dead, .dead, .dead, (.bool false), (.int .u64 v0), .dead, .dead, .dead, .dead, .dead, .dead, .dead, .dead, .dead, .dead, .dead, .dead, .dead, .dead, .dead, .dead, .dead, .dead, .dead, .dead, .dead, .dead, .dead, .dead, .dead] []
def law01_FieldNumbers_c9 (v0 : Int) (r3 : List Int) (r14 : Int) (Q : Bool → Prop) : Prop := Run Try.prog 0 (FinS Try.prog 0 Try.f5 (law01_FieldNumbers_R Q)) [.ops (.op (POper.mk (some 62) (.callf 19 [(.tmp 61)]) none) none :: law01_FieldNumbers_o17_20), .code (.ann [.mask [7, 65], .gc] (.cut law01_FieldNumbers_w18)), .code (.ann [.mask [7], .gc] (.cut law01_FieldNumbers_w23))] [(.int .u64 v0), .dead, .dead, .dead, .dead, .dead, .dead, (.sl eU8 r3), .dead, .dead, .dead, .dead, .dead, .dead, .dead, .dead, .dead, .dead, .dead, .dead, .dead, .dead, .dead, .dead, .dead, .dead, .dead, .dead, .dead, .dead, .dead, .dead, .dead, .dead, .dead, .dead, .dead, .dead, .dead, .dead, .dead, .dead, .dead, .dead, .dead, .dead, .dead, .dead, .dead, .dead, .dead, .dead, .dead, .dead, .dead, .dead, .dead, .dead, .dead, (.bool false), .dead, (.int .i64 r14), .dead, .dead, .dead, .dead, .dead, .dead, .dead, .dead, .dead, .dead, .dead, .dead, .dead, .dead, .dead, .dead, .dead, .dead, .dead, .dead, .dead, .dead, .dead, .dead] []
theorem law01_FieldNumbers_step (v0 : Int) (n1 : Int) (rest2 : List Int) {Q : Bool → Prop} (h :
    law01_FieldNumbers_c1 v0 n1 rest2 Q) : law01_FieldNumbers v0 n1 rest2 Q :=
  adv_go 6000 mixed law01_FieldNumbers_rr (fa := [.gc]) (by kernel_rfl) h
theorem law01_FieldNumbers_c1_step (v0 : Int) (n1 : Int) (rest2 : List Int) {Q : Bool → Prop} (r3 : List Int) (hc : field_Uint_v1 ([]) v0 (fun x => x = r3)) (h :
    Br (decide ((rest2.length : Int) > 2000))
      (law01_FieldNumbers_k1 v0 n1 rest2 r3 true Q)
      (Br (decide ((r3.length : Int) < 1))
        (law01_FieldNumbers_k1 v0 n1 rest2 r3 true Q)
        (law01_FieldNumbers_k1 v0 n1 rest2 r3 (decide ((r3.length : Int) > 10)) Q))) : law01_FieldNumbers_c1 v0 n1 rest2 Q :=
  run_callf (tout := (lendOut [] 0 (field_Uint_v1_enc r3) (field_Uint_v1_obj r3))) (call_typed [] (field_Uint_v1_ok ([]) v0 r3 hc) (by kernel_rfl) (by kernel_rfl) (by kernel_rfl)) (adv_go 6000 mixed law01_FieldNumbers_rr (fa := [.gc]) (by kernel_rfl) h)
theorem law01_FieldNumbers_k1_step (v0 : Int) (n1 : Int) (rest2 : List Int) (r3 : List Int) (x4 : Bool) {Q : Bool → Prop} (h :
    Br (x4)
      (Br (decide ((rest2.length : Int) > 2000))
        (law01_FieldNumbers_c2 Q)
        (law01_FieldNumbers_ret Q false))
      (law01_FieldNumbers_k2 v0 n1 rest2 r3 Q)) : law01_FieldNumbers_k1 v0 n1 rest2 r3 x4 Q :=
  adv_go 6000 mixed law01_FieldNumbers_rr (fa := [.gc]) (by kernel_rfl) h
theorem law01_FieldNumbers_c2_step  {Q : Bool → Prop} (r5 : Bool) (hc : law01_lives (fun x => x = r5)) (h :
    law01_FieldNumbers_ret Q r5) : law01_FieldNumbers_c2 Q :=
  run_callf (tout := (lendOut [] 0 (law01_lives_enc r5) (law01_lives_obj r5))) (call_typed [] (law01_lives_ok r5 hc) (by kernel_rfl) (by kernel_rfl) (by kernel_rfl)) (adv_go 6000 mixed law01_FieldNumbers_rr (fa := [.gc]) (by kernel_rfl) h)
theorem law01_FieldNumbers_k2_step (v0 : Int) (n1 : Int) (rest2 : List Int) (r3 : List Int) {Q : Bool → Prop} (h :
    (0 + r3.length ≤ 1099511627776) ∧
    ((r3.length = r3.length) ∧ (r3.length + rest2.length ≤ 1099511627776)) ∧
    ((r3 ++ rest2).length = (r3 ++ rest2).length) ∧
    law01_FieldNumbers_c3 v0 n1 r3 rest2 Q) : law01_FieldNumbers_k2 v0 n1 rest2 r3 Q :=
  adv_go 6000 mixed law01_FieldNumbers_rr (fa := [.gc]) (by kernel_rfl) h
theorem law01_FieldNumbers_c3_step (v0 : Int) (n1 : Int) (r3 : List Int) (rest2 : List Int) {Q : Bool → Prop} (r6 : Int × Int) (hc : field_GetUint (r3 ++ rest2) (fun x => x = r6)) (h :
    Br (r6.1 != v0)
      (law01_FieldNumbers_k3 r3 true Q)
      (Br (r6.2 != (r3.length : Int))
        (law01_FieldNumbers_k3 r3 true Q)
        (law01_FieldNumbers_c6 v0 n1 r3 Q))) : law01_FieldNumbers_c3 v0 n1 r3 rest2 Q :=
  run_callf (tout := (lendOut [] 0 (field_GetUint_enc r6) (field_GetUint_obj r6))) (call_typed [] (field_GetUint_ok (r3 ++ rest2) r6 hc) (by kernel_rfl) (by kernel_rfl) (by kernel_rfl)) (adv_go 6000 mixed law01_FieldNumbers_rr (fa := [.gc]) (by kernel_rfl) h)
theorem law01_FieldNumbers_k3_step (r3 : List Int) (x7 : Bool) {Q : Bool → Prop} (h :
    Br (x7)
      (law01_FieldNumbers_ret Q false)
      (law01_FieldNumbers_k4 r3 Q)) : law01_FieldNumbers_k3 r3 x7 Q :=
  adv_go 6000 mixed law01_FieldNumbers_rr (fa := [.gc]) (by kernel_rfl) h
theorem law01_FieldNumbers_k4_step (r3 : List Int) {Q : Bool → Prop} (h :
    law01_FieldNumbers_l5 r3 0 Q) : law01_FieldNumbers_k4 r3 Q :=
  adv_go 6000 mixed law01_FieldNumbers_rr (fa := [.gc]) (by kernel_rfl) h
theorem law01_FieldNumbers_l5_step (r3 : List Int) (i8 : Int) {Q : Bool → Prop} (h :
    Br (decide (i8 < (r3.length : Int)))
      ((0 ≤ i8 ∧ i8 ≤ (r3.length : Int)) ∧
      law01_FieldNumbers_c4 r3 i8 Q)
      (law01_FieldNumbers_c5 Q)) : law01_FieldNumbers_l5 r3 i8 Q :=
  run_loop (adv_go 6000 mixed law01_FieldNumbers_rr (fa := [.gc]) (by kernel_rfl) h)
theorem law01_FieldNumbers_c4_step (r3 : List Int) (i8 : Int) {Q : Bool → Prop} (r9 : Int × Int) (hc : field_GetUint (r3.take i8.toNat) (fun x => x = r9)) (h :
    Br (r9.1 != 0)
      (law01_FieldNumbers_k6 r3 i8 true Q)
      (law01_FieldNumbers_k6 r3 i8 (r9.2 != 0) Q)) : law01_FieldNumbers_c4 r3 i8 Q :=
  run_callf (tout := (lendOut [] 0 (field_GetUint_enc r9) (field_GetUint_obj r9))) (call_typed [] (field_GetUint_ok (r3.take i8.toNat) r9 hc) (by kernel_rfl) (by kernel_rfl) (by kernel_rfl)) (adv_go 6000 mixed law01_FieldNumbers_rr (fa := [.gc]) (by kernel_rfl) h)
theorem law01_FieldNumbers_k6_step (r3 : List Int) (i8 : Int) (x10 : Bool) {Q : Bool → Prop} (h :
    Br (x10)
      (law01_FieldNumbers_ret Q false)
      (law01_FieldNumbers_l5 r3 (addK .i64 i8 1) Q)) : law01_FieldNumbers_k6 r3 i8 x10 Q :=
  adv_go 6000 mixed law01_FieldNumbers_rr (fa := [.gc]) (by kernel_rfl) h
theorem law01_FieldNumbers_c5_step  {Q : Bool → Prop} (r11 : Bool) (hc : law01_lives (fun x => x = r11)) (h :
    law01_FieldNumbers_ret Q r11) : law01_FieldNumbers_c5 Q :=
  run_callf (tout := (lendOut [] 0 (law01_lives_enc r11) (law01_lives_obj r11))) (call_typed [] (law01_lives_ok r11 hc) (by kernel_rfl) (by kernel_rfl) (by kernel_rfl)) (adv_go 6000 mixed law01_FieldNumbers_rr (fa := [.gc]) (by kernel_rfl) h)
theorem law01_FieldNumbers_c6_step (v0 : Int) (n1 : Int) (r3 : List Int) {Q : Bool → Prop} (r12 : Int) (hc : field_Zig n1 (fun x => x = r12)) (h :
    law01_FieldNumbers_c7 v0 n1 r3 r12 Q) : law01_FieldNumbers_c6 v0 n1 r3 Q :=
  run_callf (tout := (lendOut [] 0 (field_Zig_enc r12) (field_Zig_obj r12))) (call_typed [] (field_Zig_ok n1 r12 hc) (by kernel_rfl) (by kernel_rfl) (by kernel_rfl)) (adv_go 6000 mixed law01_FieldNumbers_rr (fa := [.gc]) (by kernel_rfl) h)
theorem law01_FieldNumbers_c7_step (v0 : Int) (n1 : Int) (r3 : List Int) (r12 : Int) {Q : Bool → Prop} (r13 : Int) (hc : field_Zag r12 (fun x => x = r13)) (h :
    Br (r13 != n1)
      (law01_FieldNumbers_k3 r3 true Q)
      (law01_FieldNumbers_c8 v0 r3 Q)) : law01_FieldNumbers_c7 v0 n1 r3 r12 Q :=
  run_callf (tout := (lendOut [] 0 (field_Zag_enc r13) (field_Zag_obj r13))) (call_typed [] (field_Zag_ok r12 r13 hc) (by kernel_rfl) (by kernel_rfl) (by kernel_rfl)) (adv_go 6000 mixed law01_FieldNumbers_rr (fa := [.gc]) (by kernel_rfl) h)
theorem law01_FieldNumbers_c8_step (v0 : Int) (r3 : List Int) {Q : Bool → Prop} (r14 : Int) (hc : field_Zag v0 (fun x => x = r14)) (h :
    law01_FieldNumbers_c9 v0 r3 r14 Q) : law01_FieldNumbers_c8 v0 r3 Q :=
  run_callf (tout := (lendOut [] 0 (field_Zag_enc r14) (field_Zag_obj r14))) (call_typed [] (field_Zag_ok v0 r14 hc) (by kernel_rfl) (by kernel_rfl) (by kernel_rfl)) (adv_go 6000 mixed law01_FieldNumbers_rr (fa := [.gc]) (by kernel_rfl) h)
theorem law01_FieldNumbers_c9_step (v0 : Int) (r3 : List Int) (r14 : Int) {Q : Bool → Prop} (r15 : Int) (hc : field_Zig r14 (fun x => x = r15)) (h :
    law01_FieldNumbers_k3 r3 (r15 != v0) Q) : law01_FieldNumbers_c9 v0 r3 r14 Q :=
  run_callf (tout := (lendOut [] 0 (field_Zig_enc r15) (field_Zig_obj r15))) (call_typed [] (field_Zig_ok r14 r15 hc) (by kernel_rfl) (by kernel_rfl) (by kernel_rfl)) (adv_go 6000 mixed law01_FieldNumbers_rr (fa := [.gc]) (by kernel_rfl) h)
theorem law01_FieldNumbers_act (v0 : Int) (n1 : Int) (rest2 : List Int) {Q : Bool → Prop} (h : law01_FieldNumbers v0 n1 rest2 Q) : ACT Try.prog 5 [(.int .u64 v0), (.int .i64 n1), (.sl eU8 rest2)] [] (law01_FieldNumbers_R Q) :=
  act_go Try.func5 (by rfl) (by kernel_rfl) law01_FieldNumbers_rc (n0 := 0) rfl (by kernel_rfl) h
theorem law01_FieldNumbers_ok (v0 : Int) (n1 : Int) (rest2 : List Int) (r : Bool) (h : law01_FieldNumbers v0 n1 rest2 (fun x => x = r)) : ACT Try.prog 5 [(.int .u64 v0), (.int .i64 n1), (.sl eU8 rest2)] [] (fun tv tL => tv = law01_FieldNumbers_enc r ∧ tL = law01_FieldNumbers_obj r) := act_det (law01_FieldNumbers_act v0 n1 rest2 h)

/-! drover/droverlaw01.light -/
def law01_light_enc  : Bool → TV := fun r => (.bool r)
def law01_light_obj  : Bool → List TO := fun r => []
def law01_light_R  (Q : Bool → Prop) : TV → List TO → Prop := RetR (law01_light_enc) (law01_light_obj) Q
def law01_light_ret  (Q : Bool → Prop) (r : Bool) : Prop := law01_light_R Q (law01_light_enc r) (law01_light_obj r)
theorem law01_light_ret.intro  {Q : Bool → Prop} {r : Bool} (h : Q r) : law01_light_ret Q r := RetR.intro h
def law01_light_o2_0 : List WOp := .op (POper.mk (some 2) (.move (.const (.bool false))) none) none :: []
def law01_light_w2 : WC := (.region law01_light_o2_0)
def law01_light_o5_0 : List WOp := .op (POper.mk (some 5) (.move (.tmp 0)) none) none :: .op (POper.mk (some 6) (.len (.tmp 5)) none) none :: .op (POper.mk (some 7) (.bin .gtr (.tmp 6) (.const (.int .i64 200))) none) none :: []
def law01_light_w5 : WC := (.region law01_light_o5_0)
def law01_light_o8_0 : List WOp := .op (POper.mk (some 2) (.move (.const (.bool false))) none) none :: []
def law01_light_w8 : WC := (.region law01_light_o8_0)
def law01_light_w7 : WC := (.seq law01_light_w8 .ret)
def law01_light_w6 : WC := (.cond (.tmp 7) law01_light_w7 .skip)
def law01_light_w4 : WC := (.seq law01_light_w5 law01_light_w6)
def law01_light_o13_0 : List WOp := .op (POper.mk (some 8) (.move (.tmp 0)) none) none :: .op (POper.mk (some 9) (.len (.tmp 8)) none) none :: .op (POper.mk (some 10) (.move (.const (.int .i64 0))) none) none :: []
def law01_light_w13 : WC := (.region law01_light_o13_0)
def law01_light_o17_0 : List WOp := .op (POper.mk (some 11) (.bin .lss (.tmp 10) (.tmp 9)) none) none :: []
def law01_light_w17 : WC := (.region law01_light_o17_0)
def law01_light_w19 : WC := (.cond (.tmp 11) .skip (.exit 0))
def law01_light_o25_0 : List WOp := .op (POper.mk (some 12) (.iaddr 4 (.tmp 8) (.tmp 10)) none) none :: .op (POper.mk (some 13) (.loadN 4 (.tmp 12)) none) none :: .op (POper.mk (some 4) (.alloc [(.d (.int .i64 0)), (.d (.bool false)), (.d (.int .u64 0)), .nilsl]) none) none :: .op (POper.mk none (.store 4 (.tmp 4) (.tmp 13)) none) none :: []
def law01_light_w25 : WC := (.region law01_light_o25_0)
def law01_light_o27_0 : List WOp := .op (POper.mk (some 14) (.faddr 3 (.tmp 4)) none) none :: .op (POper.mk (some 15) (.load1 (.tmp 14)) none) none :: .op (POper.mk (some 16) (.len (.tmp 15)) none) none :: .op (POper.mk (some 17) (.bin .gtr (.tmp 16) (.const (.int .i64 2000))) none) none :: []
def law01_light_w27 : WC := (.region law01_light_o27_0)
def law01_light_o30_0 : List WOp := .op (POper.mk (some 2) (.move (.const (.bool false))) none) none :: []
def law01_light_w30 : WC := (.region law01_light_o30_0)
def law01_light_w29 : WC := (.seq law01_light_w30 .ret)
def law01_light_w28 : WC := (.cond (.tmp 17) law01_light_w29 .skip)
def law01_light_w26 : WC := (.seq law01_light_w27 law01_light_w28)
def law01_light_w24 : WC := (.seq law01_light_w25 law01_light_w26)
def law01_light_w23 : WC := (.block 1 law01_light_w24)
def law01_light_o33_0 : List WOp := .op (POper.mk (some 18) (.bin .add (.tmp 10) (.const (.int .i64 1))) none) none :: .op (POper.mk (some 10) (.move (.tmp 18)) none) none :: []
def law01_light_w33 : WC := (.region law01_light_o33_0)
def law01_light_w22 : WC := (.seq law01_light_w23 law01_light_w33)
def law01_light_w18 : WC := (.seq law01_light_w19 law01_light_w22)
def law01_light_w16 : WC := (.seq law01_light_w17 law01_light_w18)
def law01_light_w15 : WC := (.loop [.mask [8, 9, 10], .gc] law01_light_w16)
def law01_light_w14 : WC := (.block 0 (.ann [.mask [8, 9, 10], .gc] law01_light_w15))
def law01_light_w12 : WC := (.seq law01_light_w13 law01_light_w14)
def law01_light_o35_0 : List WOp := .op (POper.mk (some 2) (.move (.const (.bool true))) none) none :: []
def law01_light_w35 : WC := (.region law01_light_o35_0)
def law01_light_w34 : WC := (.seq law01_light_w35 .ret)
def law01_light_w11 : WC := (.seq law01_light_w12 law01_light_w34)
def law01_light_w3 : WC := (.seq law01_light_w4 law01_light_w11)
def law01_light_w1 : WC := (.seq law01_light_w2 law01_light_w3)
theorem law01_light_rc : resolveC Try.prog [] (Try.f9.body.getD .skip) = some (WC.er law01_light_w1) := by kernel_rfl
theorem law01_light_rr : resolveR Try.prog Try.f9.results.toList = some [(.move (.tmp 2))] := by kernel_rfl
def law01_light (l0 : List eR0.T) (Q : Bool → Prop) : Prop := Run Try.prog 0 (FinS Try.prog 0 Try.f9 (law01_light_R Q)) [.code law01_light_w1] [(.sl eR0 l0), .und, .und, .und, .und, .und, .und, .und, .und, .und, .und, .und, .und, .und, .und, .und, .und, .und, .und] []
def law01_light_l1 (l0 : List eR0.T) (x1 : Int) (Q : Bool → Prop) : Prop := Run Try.prog 0 (FinS Try.prog 0 Try.f9 (law01_light_R Q)) [.lp [.mask [8, 9, 10], .gc] law01_light_w16, .bend 0, .code law01_light_w34] [.dead, .dead, .dead, .dead, .dead, .dead, .dead, .dead, (.sl eR0 l0), (.int .i64 (l0.length : Int)), (.int .i64 x1), .dead, .dead, .dead, .dead, .dead, .dead, .dead, .dead] []
theorem law01_light_step (l0 : List eR0.T) {Q : Bool → Prop} (h :
    Br (decide ((l0.length : Int) > 200))
      (law01_light_ret Q false)
      (law01_light_l1 l0 0 Q)) : law01_light l0 Q :=
  adv_go 6000 mixed law01_light_rr (fa := [.gc]) (by kernel_rfl) h
theorem law01_light_l1_step (l0 : List eR0.T) (x1 : Int) {Q : Bool → Prop} (h :
    Br (decide (x1 < (l0.length : Int)))
      ((0 ≤ x1 ∧ x1.toNat < l0.length) ∧
      Br (decide ((((rd eR0 l0 x1.toNat).2.2.2).length : Int) > 2000))
        (law01_light_ret Q false)
        (law01_light_l1 l0 (addK .i64 x1 1) Q))
      (law01_light_ret Q true)) : law01_light_l1 l0 x1 Q :=
  run_loop (adv_go 6000 mixed law01_light_rr (fa := [.gc]) (by kernel_rfl) h)
theorem law01_light_act (l0 : List eR0.T) {Q : Bool → Prop} (h : law01_light l0 Q) : ACT Try.prog 9 [(.sl eR0 l0)] [] (law01_light_R Q) :=
  act_go Try.func9 (by rfl) (by kernel_rfl) law01_light_rc (n0 := 0) rfl (by kernel_rfl) h
theorem law01_light_ok (l0 : List eR0.T) (r : Bool) (h : law01_light l0 (fun x => x = r)) : ACT Try.prog 9 [(.sl eR0 l0)] [] (fun tv tL => tv = law01_light_enc r ∧ tL = law01_light_obj r) := act_det (law01_light_act l0 h)

/-! drover/field.cut$1 -/
def field_cut_f1_enc  : Bool → TV := fun r => (.bool r)
def field_cut_f1_obj  : Bool → List TO := fun r => []
def field_cut_f1_R  (Q : Bool → Prop) : TV → List TO → Prop := RetR (field_cut_f1_enc) (field_cut_f1_obj) Q
def field_cut_f1_ret  (Q : Bool → Prop) (r : Bool) : Prop := field_cut_f1_R Q (field_cut_f1_enc r) (field_cut_f1_obj r)
theorem field_cut_f1_ret.intro  {Q : Bool → Prop} {r : Bool} (h : Q r) : field_cut_f1_ret Q r := RetR.intro h
def field_cut_f1_o2_0 : List WOp := .op (POper.mk (some 2) (.move (.const (.bool false))) none) none :: []
def field_cut_f1_w2 : WC := (.region field_cut_f1_o2_0)
def field_cut_f1_o4_0 : List WOp := .op (POper.mk (some 3) (.move (.tmp 0)) none) none :: .op (POper.mk (some 4) (.bin .lss (.tmp 3) (.const (.int .u8 128))) none) none :: .op (POper.mk (some 2) (.move (.tmp 4)) none) none :: []
def field_cut_f1_w4 : WC := (.region field_cut_f1_o4_0)
def field_cut_f1_w3 : WC := (.seq field_cut_f1_w4 .ret)
def field_cut_f1_w1 : WC := (.seq field_cut_f1_w2 field_cut_f1_w3)
theorem field_cut_f1_rc : resolveC Try.prog [] (Try.f36.body.getD .skip) = some (WC.er field_cut_f1_w1) := by kernel_rfl
theorem field_cut_f1_rr : resolveR Try.prog Try.f36.results.toList = some [(.move (.tmp 2))] := by kernel_rfl
def field_cut_f1 (x0 : Int) (Q : Bool → Prop) : Prop := Run Try.prog 0 (FinS Try.prog 0 Try.f36 (field_cut_f1_R Q)) [.code field_cut_f1_w1] [(.int .u8 x0), .und, .und, .und, .und] []
theorem field_cut_f1_step (x0 : Int) {Q : Bool → Prop} (h :
    field_cut_f1_ret Q (decide (x0 < 128))) : field_cut_f1 x0 Q :=
  adv_go 6000 mixed field_cut_f1_rr (fa := [.gc]) (by kernel_rfl) h
theorem field_cut_f1_act (x0 : Int) {Q : Bool → Prop} (h : field_cut_f1 x0 Q) : ACT Try.prog 36 [(.int .u8 x0)] [] (field_cut_f1_R Q) :=
  act_go Try.func36 (by rfl) (by kernel_rfl) field_cut_f1_rc (n0 := 0) rfl (by kernel_rfl) h
theorem field_cut_f1_ok (x0 : Int) (r : Bool) (h : field_cut_f1 x0 (fun x => x = r)) : ACT Try.prog 36 [(.int .u8 x0)] [] (fun tv tL => tv = field_cut_f1_enc r ∧ tL = field_cut_f1_obj r) := act_det (field_cut_f1_act x0 h)

/-! slices.IndexFunc[[]byte,byte] -/
def slices_IndexFunc_byte_byte_enc  : Int → TV := fun r => (.int .i64 r)
def slices_IndexFunc_byte_byte_obj  : Int → List TO := fun r => []
def slices_IndexFunc_byte_byte_R  (Q : Int → Prop) : TV → List TO → Prop := RetR (slices_IndexFunc_byte_byte_enc) (slices_IndexFunc_byte_byte_obj) Q
def slices_IndexFunc_byte_byte_ret  (Q : Int → Prop) (r : Int) : Prop := slices_IndexFunc_byte_byte_R Q (slices_IndexFunc_byte_byte_enc r) (slices_IndexFunc_byte_byte_obj r)
theorem slices_IndexFunc_byte_byte_ret.intro  {Q : Int → Prop} {r : Int} (h : Q r) : slices_IndexFunc_byte_byte_ret Q r := RetR.intro h
def slices_IndexFunc_byte_byte_o2_0 : List WOp := .op (POper.mk (some 4) (.move (.const (.int .i64 0))) none) none :: []
def slices_IndexFunc_byte_byte_w2 : WC := (.region slices_IndexFunc_byte_byte_o2_0)
def slices_IndexFunc_byte_byte_o5_0 : List WOp := .op (POper.mk (some 6) (.move (.tmp 0)) none) none :: .op (POper.mk (some 7) (.len (.tmp 6)) none) none :: .op (POper.mk (some 8) (.move (.const (.int .i64 0))) none) none :: []
def slices_IndexFunc_byte_byte_w5 : WC := (.region slices_IndexFunc_byte_byte_o5_0)
def slices_IndexFunc_byte_byte_o9_0 : List WOp := .op (POper.mk (some 9) (.bin .lss (.tmp 8) (.tmp 7)) none) none :: []
def slices_IndexFunc_byte_byte_w9 : WC := (.region slices_IndexFunc_byte_byte_o9_0)
def slices_IndexFunc_byte_byte_w11 : WC := (.cond (.tmp 9) .skip (.exit 0))
def slices_IndexFunc_byte_byte_o17_0 : List WOp := .op (POper.mk (some 10) (.move (.tmp 8)) none) none :: .op (POper.mk (some 5) (.move (.tmp 10)) none) none :: []
def slices_IndexFunc_byte_byte_w17 : WC := (.region slices_IndexFunc_byte_byte_o17_0)
def slices_IndexFunc_byte_byte_o19_6 : List WOp := []
def slices_IndexFunc_byte_byte_o19_0 : List WOp := .op (POper.mk (some 11) (.move (.tmp 1)) none) none :: .op (POper.mk (some 12) (.move (.tmp 0)) none) none :: .op (POper.mk (some 13) (.move (.tmp 5)) none) none :: .op (POper.mk (some 14) (.iaddr 1 (.tmp 12) (.tmp 13)) none) none :: .op (POper.mk (some 15) (.load1 (.tmp 14)) none) none :: .ann [.mask [0, 1, 5, 7, 8, 11, 15], .gc] :: .op (POper.mk (some 16) (.callv (.tmp 11) [(.tmp 15)]) none) none :: slices_IndexFunc_byte_byte_o19_6
def slices_IndexFunc_byte_byte_w19 : WC := (.region slices_IndexFunc_byte_byte_o19_0)
def slices_IndexFunc_byte_byte_o22_0 : List WOp := .op (POper.mk (some 17) (.move (.tmp 5)) none) none :: .op (POper.mk (some 4) (.move (.tmp 17)) none) none :: []
def slices_IndexFunc_byte_byte_w22 : WC := (.region slices_IndexFunc_byte_byte_o22_0)
def slices_IndexFunc_byte_byte_w21 : WC := (.seq slices_IndexFunc_byte_byte_w22 .ret)
def slices_IndexFunc_byte_byte_w20 : WC := (.cond (.tmp 16) slices_IndexFunc_byte_byte_w21 .skip)
def slices_IndexFunc_byte_byte_w18 : WC := (.seq slices_IndexFunc_byte_byte_w19 slices_IndexFunc_byte_byte_w20)
def slices_IndexFunc_byte_byte_w16 : WC := (.seq slices_IndexFunc_byte_byte_w17 slices_IndexFunc_byte_byte_w18)
def slices_IndexFunc_byte_byte_w15 : WC := (.block 1 slices_IndexFunc_byte_byte_w16)
def slices_IndexFunc_byte_byte_o25_0 : List WOp := .op (POper.mk (some 18) (.bin .add (.tmp 8) (.const (.int .i64 1))) none) none :: .op (POper.mk (some 8) (.move (.tmp 18)) none) none :: []
def slices_IndexFunc_byte_byte_w25 : WC := (.region slices_IndexFunc_byte_byte_o25_0)
def slices_IndexFunc_byte_byte_w14 : WC := (.seq slices_IndexFunc_byte_byte_w15 slices_IndexFunc_byte_byte_w25)
def slices_IndexFunc_byte_byte_w10 : WC := (.seq slices_IndexFunc_byte_byte_w11 slices_IndexFunc_byte_byte_w14)
def slices_IndexFunc_byte_byte_w8 : WC := (.seq slices_IndexFunc_byte_byte_w9 slices_IndexFunc_byte_byte_w10)
def slices_IndexFunc_byte_byte_w7 : WC := (.loop [.mask [0, 1, 7, 8], .gc] slices_IndexFunc_byte_byte_w8)
def slices_IndexFunc_byte_byte_w6 : WC := (.block 0 (.ann [.mask [0, 1, 7, 8], .gc] slices_IndexFunc_byte_byte_w7))
def slices_IndexFunc_byte_byte_w4 : WC := (.seq slices_IndexFunc_byte_byte_w5 slices_IndexFunc_byte_byte_w6)
def slices_IndexFunc_byte_byte_o27_0 : List WOp := .op (POper.mk (some 4) (.move (.const (.int .i64 (-1)))) none) none :: []
def slices_IndexFunc_byte_byte_w27 : WC := (.region slices_IndexFunc_byte_byte_o27_0)
def slices_IndexFunc_byte_byte_w26 : WC := (.seq slices_IndexFunc_byte_byte_w27 .ret)
def slices_IndexFunc_byte_byte_w3 : WC := (.seq slices_IndexFunc_byte_byte_w4 slices_IndexFunc_byte_byte_w26)
def slices_IndexFunc_byte_byte_w1 : WC := (.seq slices_IndexFunc_byte_byte_w2 slices_IndexFunc_byte_byte_w3)
theorem slices_IndexFunc_byte_byte_rc : resolveC Try.prog [] (Try.f37.body.getD .skip) = some (WC.er slices_IndexFunc_byte_byte_w1) := by kernel_rfl
theorem slices_IndexFunc_byte_byte_rr : resolveR Try.prog Try.f37.results.toList = some [(.move (.tmp 4))] := by kernel_rfl
def slices_IndexFunc_byte_byte (s0 : List Int) (Q : Int → Prop) : Prop := Run Try.prog 0 (FinS Try.prog 0 Try.f37 (slices_IndexFunc_byte_byte_R Q)) [.code slices_IndexFunc_byte_byte_w1] [(.sl eU8 s0), (.fn 36 [] []), .und, .und, .und, .und, .und, .und, .und, .und, .und, .und, .und, .und, .und, .und, .und, .und, .und] []
def slices_IndexFunc_byte_byte_l1 (s0 : List Int) (x1 : Int) (Q : Int → Prop) : Prop := Run Try.prog 0 (FinS Try.prog 0 Try.f37 (slices_IndexFunc_byte_byte_R Q)) [.lp [.mask [0, 1, 7, 8], .gc] slices_IndexFunc_byte_byte_w8, .bend 0, .code slices_IndexFunc_byte_byte_w26] [(.sl eU8 s0), (.fn 36 [] []), .dead, .dead, .dead, .dead, .dead, (.int .i64 (s0.length : Int)), (.int .i64 x1), .dead, .dead, .dead, .dead, .dead, .dead, .dead, .dead, .dead, .dead] []
def slices_IndexFunc_byte_byte_c1 (s0 : List Int) (x1 : Int) (Q : Int → Prop) : Prop := Run Try.prog 0 (FinS Try.prog 0 Try.f37 (slices_IndexFunc_byte_byte_R Q)) [.ops (.op (POper.mk (some 16) (.callv (.tmp 11) [(.tmp 15)]) none) none :: slices_IndexFunc_byte_byte_o19_6), .code slices_IndexFunc_byte_byte_w20, .bend 1, .code slices_IndexFunc_byte_byte_w25, .lp [.mask [0, 1, 7, 8], .gc] slices_IndexFunc_byte_byte_w8, .bend 0, .code slices_IndexFunc_byte_byte_w26] [(.sl eU8 s0), (.fn 36 [] []), .dead, .dead, .dead, (.int .i64 x1), .dead, (.int .i64 (s0.length : Int)), (.int .i64 x1), .dead, .dead, (.fn 36 [] []), .dead, .dead, .dead, (.int .u8 (rdI s0 x1.toNat)), .dead, .dead, .dead] []
theorem slices_IndexFunc_byte_byte_step (s0 : List Int) {Q : Int → Prop} (h :
    slices_IndexFunc_byte_byte_l1 s0 0 Q) : slices_IndexFunc_byte_byte s0 Q :=
  adv_go 6000 mixed slices_IndexFunc_byte_byte_rr (fa := [.gc]) (by kernel_rfl) h
theorem slices_IndexFunc_byte_byte_l1_step (s0 : List Int) (x1 : Int) {Q : Int → Prop} (h :
    Br (decide (x1 < (s0.length : Int)))
      ((0 ≤ x1 ∧ x1.toNat < s0.length) ∧
      slices_IndexFunc_byte_byte_c1 s0 x1 Q)
      (slices_IndexFunc_byte_byte_ret Q (-1))) : slices_IndexFunc_byte_byte_l1 s0 x1 Q :=
  run_loop (adv_go 6000 mixed slices_IndexFunc_byte_byte_rr (fa := [.gc]) (by kernel_rfl) h)
theorem slices_IndexFunc_byte_byte_c1_step (s0 : List Int) (x1 : Int) {Q : Int → Prop} (r2 : Bool) (hc : field_cut_f1 (rdI s0 x1.toNat) (fun x => x = r2)) (h :
    Br (r2)
      (slices_IndexFunc_byte_byte_ret Q x1)
      (slices_IndexFunc_byte_byte_l1 s0 (addK .i64 x1 1) Q)) : slices_IndexFunc_byte_byte_c1 s0 x1 Q :=
  run_callv rfl (tout := (lendOut [] 0 (field_cut_f1_enc r2) (field_cut_f1_obj r2))) (call_typed [] (field_cut_f1_ok (rdI s0 x1.toNat) r2 hc) (by kernel_rfl) (by kernel_rfl) (by kernel_rfl)) (adv_go 6000 mixed slices_IndexFunc_byte_byte_rr (fa := [.gc]) (by kernel_rfl) h)
theorem slices_IndexFunc_byte_byte_act (s0 : List Int) {Q : Int → Prop} (h : slices_IndexFunc_byte_byte s0 Q) : ACT Try.prog 37 [(.sl eU8 s0), (.fn 36 [] [])] [] (slices_IndexFunc_byte_byte_R Q) :=
  act_go Try.func37 (by rfl) (by kernel_rfl) slices_IndexFunc_byte_byte_rc (n0 := 0) rfl (by kernel_rfl) h
theorem slices_IndexFunc_byte_byte_ok (s0 : List Int) (r : Int) (h : slices_IndexFunc_byte_byte s0 (fun x => x = r)) : ACT Try.prog 37 [(.sl eU8 s0), (.fn 36 [] [])] [] (fun tv tL => tv = slices_IndexFunc_byte_byte_enc r ∧ tL = slices_IndexFunc_byte_byte_obj r) := act_det (slices_IndexFunc_byte_byte_act s0 h)

/-! slices.ContainsFunc[[]byte,byte] -/
def slices_ContainsFunc_byte_byte_enc  : Bool → TV := fun r => (.bool r)
def slices_ContainsFunc_byte_byte_obj  : Bool → List TO := fun r => []
def slices_ContainsFunc_byte_byte_R  (Q : Bool → Prop) : TV → List TO → Prop := RetR (slices_ContainsFunc_byte_byte_enc) (slices_ContainsFunc_byte_byte_obj) Q
def slices_ContainsFunc_byte_byte_ret  (Q : Bool → Prop) (r : Bool) : Prop := slices_ContainsFunc_byte_byte_R Q (slices_ContainsFunc_byte_byte_enc r) (slices_ContainsFunc_byte_byte_obj r)
theorem slices_ContainsFunc_byte_byte_ret.intro  {Q : Bool → Prop} {r : Bool} (h : Q r) : slices_ContainsFunc_byte_byte_ret Q r := RetR.intro h
def slices_ContainsFunc_byte_byte_o2_0 : List WOp := .op (POper.mk (some 4) (.move (.const (.bool false))) none) none :: []
def slices_ContainsFunc_byte_byte_w2 : WC := (.region slices_ContainsFunc_byte_byte_o2_0)
def slices_ContainsFunc_byte_byte_o4_3 : List WOp := .op (POper.mk (some 8) (.bin .geq (.tmp 7) (.const (.int .i64 0))) none) none :: .op (POper.mk (some 4) (.move (.tmp 8)) none) none :: []
def slices_ContainsFunc_byte_byte_o4_0 : List WOp := .op (POper.mk (some 5) (.move (.tmp 0)) none) none :: .op (POper.mk (some 6) (.move (.tmp 1)) none) none :: .ann [.mask [5, 6], .gc] :: .op (POper.mk (some 7) (.callf 37 [(.tmp 5), (.tmp 6)]) none) none :: slices_ContainsFunc_byte_byte_o4_3
def slices_ContainsFunc_byte_byte_w4 : WC := (.region slices_ContainsFunc_byte_byte_o4_0)
def slices_ContainsFunc_byte_byte_w3 : WC := (.seq slices_ContainsFunc_byte_byte_w4 .ret)
def slices_ContainsFunc_byte_byte_w1 : WC := (.seq slices_ContainsFunc_byte_byte_w2 slices_ContainsFunc_byte_byte_w3)
theorem slices_ContainsFunc_byte_byte_rc : resolveC Try.prog [] (Try.f35.body.getD .skip) = some (WC.er slices_ContainsFunc_byte_byte_w1) := by kernel_rfl
theorem slices_ContainsFunc_byte_byte_rr : resolveR Try.prog Try.f35.results.toList = some [(.move (.tmp 4))] := by kernel_rfl
def slices_ContainsFunc_byte_byte (s0 : List Int) (Q : Bool → Prop) : Prop := Run Try.prog 0 (FinS Try.prog 0 Try.f35 (slices_ContainsFunc_byte_byte_R Q)) [.code slices_ContainsFunc_byte_byte_w1] [(.sl eU8 s0), (.fn 36 [] []), .und, .und, .und, .und, .und, .und, .und] []
def slices_ContainsFunc_byte_byte_c1 (s0 : List Int) (Q : Bool → Prop) : Prop := Run Try.prog 0 (FinS Try.prog 0 Try.f35 (slices_ContainsFunc_byte_byte_R Q)) [.ops (.op (POper.mk (some 7) (.callf 37 [(.tmp 5), (.tmp 6)]) none) none :: slices_ContainsFunc_byte_byte_o4_3), .code .ret] [.dead, .dead, .dead, .dead, .dead, (.sl eU8 s0), (.fn 36 [] []), .dead, .dead] []
theorem slices_ContainsFunc_byte_byte_step (s0 : List Int) {Q : Bool → Prop} (h :
    slices_ContainsFunc_byte_byte_c1 s0 Q) : slices_ContainsFunc_byte_byte s0 Q :=
  adv_go 6000 mixed slices_ContainsFunc_byte_byte_rr (fa := [.gc]) (by kernel_rfl) h
theorem slices_ContainsFunc_byte_byte_c1_step (s0 : List Int) {Q : Bool → Prop} (r1 : Int) (hc : slices_IndexFunc_byte_byte s0 (fun x => x = r1)) (h :
    slices_ContainsFunc_byte_byte_ret Q (decide (r1 ≥ 0))) : slices_ContainsFunc_byte_byte_c1 s0 Q :=
  run_callf (tout := (lendOut [] 0 (slices_IndexFunc_byte_byte_enc r1) (slices_IndexFunc_byte_byte_obj r1))) (call_typed [] (slices_IndexFunc_byte_byte_ok s0 r1 hc) (by kernel_rfl) (by kernel_rfl) (by kernel_rfl)) (adv_go 6000 mixed slices_ContainsFunc_byte_byte_rr (fa := [.gc]) (by kernel_rfl) h)
theorem slices_ContainsFunc_byte_byte_act (s0 : List Int) {Q : Bool → Prop} (h : slices_ContainsFunc_byte_byte s0 Q) : ACT Try.prog 35 [(.sl eU8 s0), (.fn 36 [] [])] [] (slices_ContainsFunc_byte_byte_R Q) :=
  act_go Try.func35 (by rfl) (by kernel_rfl) slices_ContainsFunc_byte_byte_rc (n0 := 0) rfl (by kernel_rfl) h
theorem slices_ContainsFunc_byte_byte_ok (s0 : List Int) (r : Bool) (h : slices_ContainsFunc_byte_byte s0 (fun x => x = r)) : ACT Try.prog 35 [(.sl eU8 s0), (.fn 36 [] [])] [] (fun tv tL => tv = slices_ContainsFunc_byte_byte_enc r ∧ tL = slices_ContainsFunc_byte_byte_obj r) := act_det (slices_ContainsFunc_byte_byte_act s0 h)

/-! drover/field.cut -/
def field_cut_enc  : Bool → TV := fun r => (.bool r)
def field_cut_obj  : Bool → List TO := fun r => []
def field_cut_R  (Q : Bool → Prop) : TV → List TO → Prop := RetR (field_cut_enc) (field_cut_obj) Q
def field_cut_ret  (Q : Bool → Prop) (r : Bool) : Prop := field_cut_R Q (field_cut_enc r) (field_cut_obj r)
theorem field_cut_ret.intro  {Q : Bool → Prop} {r : Bool} (h : Q r) : field_cut_ret Q r := RetR.intro h
def field_cut_o2_0 : List WOp := .op (POper.mk (some 2) (.move (.const (.bool false))) none) none :: []
def field_cut_w2 : WC := (.region field_cut_o2_0)
def field_cut_o4_6 : List WOp := .op (POper.mk (some 9) (.un .not (.tmp 8)) (some (6, true))) none :: .op (POper.mk (some 10) (.pick (.tmp 6) (.tmp 9) (.const (.bool false))) none) none :: .op (POper.mk (some 2) (.move (.tmp 10)) none) none :: []
def field_cut_o4_0 : List WOp := .op (POper.mk (some 3) (.move (.tmp 0)) none) none :: .op (POper.mk (some 4) (.len (.tmp 3)) none) none :: .op (POper.mk (some 5) (.bin .lss (.tmp 4) (.const (.int .i64 10))) none) none :: .op (POper.mk (some 6) (.move (.tmp 5)) none) none :: .op (POper.mk (some 7) (.move (.tmp 0)) (some (6, true))) none :: .ann [.mask [6, 7], .gc] :: .op (POper.mk (some 8) (.callf 35 [(.tmp 7), (.func 36)]) (some (6, true))) none :: field_cut_o4_6
def field_cut_w4 : WC := (.region field_cut_o4_0)
def field_cut_w3 : WC := (.seq field_cut_w4 .ret)
def field_cut_w1 : WC := (.seq field_cut_w2 field_cut_w3)
theorem field_cut_rc : resolveC Try.prog [] (Try.f34.body.getD .skip) = some (WC.er field_cut_w1) := by kernel_rfl
theorem field_cut_rr : resolveR Try.prog Try.f34.results.toList = some [(.move (.tmp 2))] := by kernel_rfl
def field_cut (b0 : List Int) (Q : Bool → Prop) : Prop := Run Try.prog 0 (FinS Try.prog 0 Try.f34 (field_cut_R Q)) [.code field_cut_w1] [(.sl eU8 b0), .und, .und, .und, .und, .und, .und, .und, .und, .und, .und] []
def field_cut_c1 (b0 : List Int) (Q : Bool → Prop) : Prop := Run Try.prog 0 (FinS Try.prog 0 Try.f34 (field_cut_R Q)) [.ops (.op (POper.mk (some 8) (.callf 35 [(.tmp 7), (.func 36)]) none) none :: field_cut_o4_6), .code .ret] [.dead, .dead, .dead, .dead, .dead, .dead, (.bool true), (.sl eU8 b0), .dead, .dead, .dead] []
theorem field_cut_step (b0 : List Int) {Q : Bool → Prop} (h :
    Br (decide ((b0.length : Int) < 10))
      (field_cut_c1 b0 Q)
      (field_cut_ret Q false)) : field_cut b0 Q :=
  adv_go 6000 mixed field_cut_rr (fa := [.gc]) (by kernel_rfl) h
theorem field_cut_c1_step (b0 : List Int) {Q : Bool → Prop} (r1 : Bool) (hc : slices_ContainsFunc_byte_byte b0 (fun x => x = r1)) (h :
    field_cut_ret Q (!r1)) : field_cut_c1 b0 Q :=
  run_callf (tout := (lendOut [] 0 (slices_ContainsFunc_byte_byte_enc r1) (slices_ContainsFunc_byte_byte_obj r1))) (call_typed [] (slices_ContainsFunc_byte_byte_ok b0 r1 hc) (by kernel_rfl) (by kernel_rfl) (by kernel_rfl)) (adv_go 6000 mixed field_cut_rr (fa := [.gc]) (by kernel_rfl) h)
theorem field_cut_act (b0 : List Int) {Q : Bool → Prop} (h : field_cut b0 Q) : ACT Try.prog 34 [(.sl eU8 b0)] [] (field_cut_R Q) :=
  act_go Try.func34 (by rfl) (by kernel_rfl) field_cut_rc (n0 := 0) rfl (by kernel_rfl) h
theorem field_cut_ok (b0 : List Int) (r : Bool) (h : field_cut b0 (fun x => x = r)) : ACT Try.prog 34 [(.sl eU8 b0)] [] (fun tv tL => tv = field_cut_enc r ∧ tL = field_cut_obj r) := act_det (field_cut_act b0 h)

/-! drover/field.number -/
def field_number_enc  : (Int × List Int × Int) → TV := fun r => (.tup [(.int .u64 r.1), (.sl eU8 r.2.1), (.int .i64 r.2.2)])
def field_number_obj  : (Int × List Int × Int) → List TO := fun r => []
def field_number_R  (Q : (Int × List Int × Int) → Prop) : TV → List TO → Prop := RetR (field_number_enc) (field_number_obj) Q
def field_number_ret  (Q : (Int × List Int × Int) → Prop) (r : (Int × List Int × Int)) : Prop := field_number_R Q (field_number_enc r) (field_number_obj r)
theorem field_number_ret.intro  {Q : (Int × List Int × Int) → Prop} {r : (Int × List Int × Int)} (h : Q r) : field_number_ret Q r := RetR.intro h
def field_number_o2_0 : List WOp := .op (POper.mk (some 2) (.move (.const (.int .u64 0))) none) none :: .op (POper.mk (some 3) (.move (.const (.slice .none 0 0))) none) none :: .op (POper.mk (some 4) (.move (.const (.int .i64 0))) none) none :: []
def field_number_w2 : WC := (.region field_number_o2_0)
def field_number_o4_2 : List WOp := .op (POper.mk (some 7) (.move (.tmp 9)) none) none :: .op (POper.mk (some 10) (.extract (.tmp 7) 0) none) none :: .op (POper.mk (some 11) (.extract (.tmp 7) 1) none) none :: .op (POper.mk (some 5) (.move (.tmp 10)) none) none :: .op (POper.mk (some 6) (.move (.tmp 11)) none) none :: []
def field_number_o4_0 : List WOp := .op (POper.mk (some 8) (.move (.tmp 0)) none) none :: .ann [.mask [0, 8], .gc] :: .op (POper.mk (some 9) (.callf 15 [(.tmp 8)]) none) none :: field_number_o4_2
def field_number_w4 : WC := (.region field_number_o4_0)
def field_number_o8_0 : List WOp := .op (POper.mk (some 13) (.move (.tmp 6)) none) none :: .op (POper.mk (some 14) (.bin .gtr (.tmp 13) (.const (.int .i64 0))) none) none :: .op (POper.mk (some 12) (.move (.tmp 14)) none) none :: []
def field_number_w8 : WC := (.region field_number_o8_0)
def field_number_o11_0 : List WOp := .op (POper.mk (some 15) (.move (.tmp 5)) none) none :: .op (POper.mk (some 16) (.move (.tmp 0)) none) none :: .op (POper.mk (some 17) (.move (.tmp 6)) none) none :: .op (POper.mk (some 18) (.slice 1 (.tmp 16) (.some (.tmp 17)) .none .none) none) none :: .op (POper.mk (some 2) (.move (.tmp 15)) none) none :: .op (POper.mk (some 3) (.move (.tmp 18)) none) none :: .op (POper.mk (some 4) (.move (.const (.int .i64 0))) none) none :: []
def field_number_e11 : List (List Nat) := [[], [], [], [1, 2], [0], [3, 1, 2, 4, 0], [5, 3, 1, 2, 4, 0]]
def field_number_w11 : WC := (.dregion field_number_o11_0 field_number_e11)
def field_number_w10 : WC := (.seq field_number_w11 .ret)
def field_number_o14_2 : List WOp := .op (POper.mk (some 19) (.move (.tmp 21)) none) none :: []
def field_number_o14_0 : List WOp := .op (POper.mk (some 20) (.move (.tmp 0)) none) none :: .ann [.mask [20], .gc] :: .op (POper.mk (some 21) (.callf 34 [(.tmp 20)]) none) none :: field_number_o14_2
def field_number_w14 : WC := (.region field_number_o14_0)
def field_number_o17_0 : List WOp := .op (POper.mk (some 2) (.move (.const (.int .u64 0))) none) none :: .op (POper.mk (some 3) (.move (.const (.slice .none 0 0))) none) none :: .op (POper.mk (some 4) (.move (.const (.int .i64 3))) none) none :: []
def field_number_w17 : WC := (.region field_number_o17_0)
def field_number_w16 : WC := (.seq field_number_w17 .ret)
def field_number_w15 : WC := (.cond (.tmp 19) field_number_w16 .skip)
def field_number_w13 : WC := (.seq field_number_w14 field_number_w15)
def field_number_w9 : WC := (.cond (.tmp 12) field_number_w10 field_number_w13)
def field_number_w7 : WC := (.seq field_number_w8 field_number_w9)
def field_number_w6 : WC := (.block 0 field_number_w7)
def field_number_o21_0 : List WOp := .op (POper.mk (some 2) (.move (.const (.int .u64 0))) none) none :: .op (POper.mk (some 3) (.move (.const (.slice .none 0 0))) none) none :: .op (POper.mk (some 4) (.move (.const (.int .i64 4))) none) none :: []
def field_number_w21 : WC := (.region field_number_o21_0)
def field_number_w20 : WC := (.seq field_number_w21 .ret)
def field_number_w5 : WC := (.seq field_number_w6 field_number_w20)
def field_number_w3 : WC := (.seq field_number_w4 field_number_w5)
def field_number_w1 : WC := (.seq field_number_w2 field_number_w3)
theorem field_number_rc : resolveC Try.prog [] (Try.f33.body.getD .skip) = some (WC.er field_number_w1) := by kernel_rfl
theorem field_number_rr : resolveR Try.prog Try.f33.results.toList = some [(.move (.tmp 2)), (.move (.tmp 3)), (.move (.tmp 4))] := by kernel_rfl
def field_number (b0 : List Int) (Q : (Int × List Int × Int) → Prop) : Prop := Run Try.prog 0 (FinS Try.prog 0 Try.f33 (field_number_R Q)) [.code field_number_w1] [(.sl eU8 b0), .und, .und, .und, .und, .und, .und, .und, .und, .und, .und, .und, .und, .und, .und, .und, .und, .und, .und, .und, .und, .und] []
def field_number_c1 (b0 : List Int) (Q : (Int × List Int × Int) → Prop) : Prop := Run Try.prog 0 (FinS Try.prog 0 Try.f33 (field_number_R Q)) [.ops (.op (POper.mk (some 9) (.callf 15 [(.tmp 8)]) none) none :: field_number_o4_2), .code field_number_w5] [(.sl eU8 b0), .dead, .dead, .dead, .dead, .dead, .dead, .dead, (.sl eU8 b0), .dead, .dead, .dead, .dead, .dead, .dead, .dead, .dead, .dead, .dead, .dead, .dead, .dead] []
def field_number_c2 (b0 : List Int) (Q : (Int × List Int × Int) → Prop) : Prop := Run Try.prog 0 (FinS Try.prog 0 Try.f33 (field_number_R Q)) [.ops (.op (POper.mk (some 21) (.callf 34 [(.tmp 20)]) none) none :: field_number_o14_2), .code field_number_w15, .bend 0, .code field_number_w20] [.dead, .dead, .dead, .dead, .dead, .dead, .dead, .dead, .dead, .dead, .dead, .dead, .dead, .dead, .dead, .dead, .dead, .dead, .dead, .dead, (.sl eU8 b0), .dead] []
theorem field_number_step (b0 : List Int) {Q : (Int × List Int × Int) → Prop} (h :
    field_number_c1 b0 Q) : field_number b0 Q :=
  adv_go 6000 mixed field_number_rr (fa := [.fit (.s 0 [1]) eU8, .gc]) (by kernel_rfl) h
theorem field_number_c1_step (b0 : List Int) {Q : (Int × List Int × Int) → Prop} (r1 : Int × Int) (hc : field_GetUint b0 (fun x => x = r1)) (h :
    Br (decide (r1.2 > 0))
      ((0 ≤ r1.2 ∧ r1.2 ≤ (b0.length : Int)) ∧
      field_number_ret Q (r1.1, b0.drop r1.2.toNat, 0))
      (field_number_c2 b0 Q)) : field_number_c1 b0 Q :=
  run_callf (tout := (lendOut [] 0 (field_GetUint_enc r1) (field_GetUint_obj r1))) (call_typed [] (field_GetUint_ok b0 r1 hc) (by kernel_rfl) (by kernel_rfl) (by kernel_rfl)) (adv_go 6000 mixed field_number_rr (fa := [.fit (.s 0 [1]) eU8, .gc]) (by kernel_rfl) h)
theorem field_number_c2_step (b0 : List Int) {Q : (Int × List Int × Int) → Prop} (r2 : Bool) (hc : field_cut b0 (fun x => x = r2)) (h :
    Br (r2)
      (field_number_ret Q (0, [], 3))
      (field_number_ret Q (0, [], 4))) : field_number_c2 b0 Q :=
  run_callf (tout := (lendOut [] 0 (field_cut_enc r2) (field_cut_obj r2))) (call_typed [] (field_cut_ok b0 r2 hc) (by kernel_rfl) (by kernel_rfl) (by kernel_rfl)) (adv_go 6000 mixed field_number_rr (fa := [.fit (.s 0 [1]) eU8, .gc]) (by kernel_rfl) h)
theorem field_number_act (b0 : List Int) {Q : (Int × List Int × Int) → Prop} (h : field_number b0 Q) : ACT Try.prog 33 [(.sl eU8 b0)] [] (field_number_R Q) :=
  act_go Try.func33 (by rfl) (by kernel_rfl) field_number_rc (n0 := 0) rfl (by kernel_rfl) h
theorem field_number_ok (b0 : List Int) (r : (Int × List Int × Int)) (h : field_number b0 (fun x => x = r)) : ACT Try.prog 33 [(.sl eU8 b0)] [] (fun tv tL => tv = field_number_enc r ∧ tL = field_number_obj r) := act_det (field_number_act b0 h)

/-! drover/field.one -/
def field_one_enc  : (eR0.T × List Int × Int) → TV := fun r => (.tup [(.agg [(.int .i64 r.1.1), (.bool r.1.2.1), (.int .u64 r.1.2.2.1), (.sl eU8 r.1.2.2.2)]), (.sl eU8 r.2.1), (.int .i64 r.2.2)])
def field_one_obj  : (eR0.T × List Int × Int) → List TO := fun r => []
def field_one_R  (Q : (eR0.T × List Int × Int) → Prop) : TV → List TO → Prop := RetR (field_one_enc) (field_one_obj) Q
def field_one_ret  (Q : (eR0.T × List Int × Int) → Prop) (r : (eR0.T × List Int × Int)) : Prop := field_one_R Q (field_one_enc r) (field_one_obj r)
theorem field_one_ret.intro  {Q : (eR0.T × List Int × Int) → Prop} {r : (eR0.T × List Int × Int)} (h : Q r) : field_one_ret Q r := RetR.intro h
def field_one_o2_0 : List WOp := .op (POper.mk (some 2) (.alloc [(.d (.int .i64 0)), (.d (.bool false)), (.d (.int .u64 0)), .nilsl]) none) none :: .op (POper.mk (some 3) (.move (.const (.slice .none 0 0))) none) none :: .op (POper.mk (some 4) (.move (.const (.int .i64 0))) none) none :: []
def field_one_w2 : WC := (.region field_one_o2_0)
def field_one_o4_2 : List WOp := .op (POper.mk (some 9) (.move (.tmp 11)) none) none :: .op (POper.mk (some 12) (.extract (.tmp 9) 0) none) none :: .op (POper.mk (some 13) (.extract (.tmp 9) 1) none) none :: .op (POper.mk (some 14) (.extract (.tmp 9) 2) none) none :: .op (POper.mk (some 5) (.move (.tmp 12)) none) none :: .op (POper.mk (some 0) (.move (.tmp 13)) none) none :: .op (POper.mk (some 6) (.move (.tmp 14)) none) none :: []
def field_one_o4_0 : List WOp := .op (POper.mk (some 10) (.move (.tmp 0)) none) none :: .ann [.mask [2, 10], .gc] :: .op (POper.mk (some 11) (.callf 33 [(.tmp 10)]) none) none :: field_one_o4_2
def field_one_w4 : WC := (.region field_one_o4_0)
def field_one_o7_0 : List WOp := .op (POper.mk (some 15) (.move (.tmp 6)) none) none :: .op (POper.mk (some 16) (.bin .neq (.tmp 15) (.const (.int .i64 0))) none) none :: []
def field_one_w7 : WC := (.region field_one_o7_0)
def field_one_o10_0 : List WOp := .op (POper.mk (some 17) (.build [(.d (.int .i64 0)), (.d (.bool false)), (.d (.int .u64 0)), .nilsl] []) none) none :: .op (POper.mk (some 18) (.move (.tmp 6)) none) none :: .op (POper.mk none (.store 4 (.tmp 2) (.tmp 17)) none) none :: .op (POper.mk (some 3) (.move (.const (.slice .none 0 0))) none) none :: .op (POper.mk (some 4) (.move (.tmp 18)) none) none :: []
def field_one_w10 : WC := (.region field_one_o10_0)
def field_one_w9 : WC := (.seq field_one_w10 .ret)
def field_one_w8 : WC := (.cond (.tmp 16) field_one_w9 .skip)
def field_one_w6 : WC := (.seq field_one_w7 field_one_w8)
def field_one_o15_0 : List WOp := .op (POper.mk (some 19) (.move (.tmp 5)) none) none :: .op (POper.mk (some 20) (.bin .shr (.tmp 19) (.const (.int .u64 1))) none) none :: .op (POper.mk (some 21) (.bin .lss (.tmp 20) (.const (.int .u64 1))) none) none :: .op (POper.mk (some 22) (.move (.tmp 21)) none) none :: .op (POper.mk (some 23) (.move (.tmp 5)) (some (22, false))) none :: .op (POper.mk (some 24) (.bin .shr (.tmp 23) (.const (.int .u64 1))) (some (22, false))) none :: .op (POper.mk (some 25) (.bin .gtr (.tmp 24) (.const (.int .u64 1000))) (some (22, false))) none :: .op (POper.mk (some 26) (.pick (.tmp 22) (.const (.bool true)) (.tmp 25)) none) none :: []
def field_one_w15 : WC := (.region field_one_o15_0)
def field_one_o18_0 : List WOp := .op (POper.mk (some 27) (.build [(.d (.int .i64 0)), (.d (.bool false)), (.d (.int .u64 0)), .nilsl] []) none) none :: .op (POper.mk none (.store 4 (.tmp 2) (.tmp 27)) none) none :: .op (POper.mk (some 3) (.move (.const (.slice .none 0 0))) none) none :: .op (POper.mk (some 4) (.move (.const (.int .i64 4))) none) none :: []
def field_one_w18 : WC := (.region field_one_o18_0)
def field_one_w17 : WC := (.seq field_one_w18 .ret)
def field_one_w16 : WC := (.cond (.tmp 26) field_one_w17 .skip)
def field_one_w14 : WC := (.seq field_one_w15 (.ann [.mask [0, 2, 5, 26], .gc] (.cut field_one_w16)))
def field_one_o22_0 : List WOp := .op (POper.mk (some 28) (.move (.tmp 5)) none) none :: .op (POper.mk (some 29) (.bin .shr (.tmp 28) (.const (.int .u64 1))) none) none :: .op (POper.mk (some 30) (.conv .i64 (.tmp 29)) none) none :: .op (POper.mk (some 31) (.move (.tmp 5)) none) none :: .op (POper.mk (some 32) (.bin .and (.tmp 31) (.const (.int .u64 1))) none) none :: .op (POper.mk (some 33) (.bin .gtr (.tmp 32) (.const (.int .u64 0))) none) none :: .op (POper.mk (some 34) (.build [(.d (.int .i64 0)), (.d (.bool false)), (.d (.int .u64 0)), .nilsl] [(0, (1, (.tmp 30))), (1, (1, (.tmp 33)))]) none) none :: .op (POper.mk (some 7) (.alloc [(.d (.int .i64 0)), (.d (.bool false)), (.d (.int .u64 0)), .nilsl]) none) none :: .op (POper.mk none (.store 4 (.tmp 7) (.tmp 34)) none) none :: []
def field_one_w22 : WC := (.region field_one_o22_0)
def field_one_o24_2 : List WOp := .op (POper.mk (some 35) (.move (.tmp 37)) none) none :: .op (POper.mk (some 38) (.extract (.tmp 35) 0) none) none :: .op (POper.mk (some 39) (.extract (.tmp 35) 1) none) none :: .op (POper.mk (some 40) (.extract (.tmp 35) 2) none) none :: .op (POper.mk (some 8) (.move (.tmp 38)) none) none :: .op (POper.mk (some 0) (.move (.tmp 39)) none) none :: .op (POper.mk (some 6) (.move (.tmp 40)) none) none :: []
def field_one_o24_0 : List WOp := .op (POper.mk (some 36) (.move (.tmp 0)) none) none :: .ann [.mask [2, 7, 36], .gc] :: .op (POper.mk (some 37) (.callf 33 [(.tmp 36)]) none) none :: field_one_o24_2
def field_one_w24 : WC := (.region field_one_o24_0)
def field_one_o28_0 : List WOp := .op (POper.mk (some 42) (.move (.tmp 6)) none) none :: .op (POper.mk (some 43) (.bin .neq (.tmp 42) (.const (.int .i64 0))) none) none :: .op (POper.mk (some 41) (.move (.tmp 43)) none) none :: []
def field_one_w28 : WC := (.region field_one_o28_0)
def field_one_o31_0 : List WOp := .op (POper.mk (some 44) (.build [(.d (.int .i64 0)), (.d (.bool false)), (.d (.int .u64 0)), .nilsl] []) none) none :: .op (POper.mk (some 45) (.move (.tmp 6)) none) none :: .op (POper.mk none (.store 4 (.tmp 2) (.tmp 44)) none) none :: .op (POper.mk (some 3) (.move (.const (.slice .none 0 0))) none) none :: .op (POper.mk (some 4) (.move (.tmp 45)) none) none :: []
def field_one_w31 : WC := (.region field_one_o31_0)
def field_one_w30 : WC := (.seq field_one_w31 .ret)
def field_one_o34_0 : List WOp := .op (POper.mk (some 47) (.faddr 1 (.tmp 7)) none) none :: .op (POper.mk (some 48) (.load1 (.tmp 47)) none) none :: .op (POper.mk (some 49) (.un .not (.tmp 48)) none) none :: .op (POper.mk (some 46) (.move (.tmp 49)) none) none :: []
def field_one_w34 : WC := (.region field_one_o34_0)
def field_one_o37_0 : List WOp := .op (POper.mk (some 50) (.move (.tmp 8)) none) none :: .op (POper.mk (some 51) (.faddr 2 (.tmp 7)) none) none :: .op (POper.mk none (.store 1 (.tmp 51) (.tmp 50)) none) none :: []
def field_one_w37 : WC := (.region field_one_o37_0)
def field_one_o39_0 : List WOp := .op (POper.mk (some 52) (.loadN 4 (.tmp 7)) none) none :: .op (POper.mk (some 53) (.move (.tmp 0)) none) none :: .op (POper.mk none (.store 4 (.tmp 2) (.tmp 52)) none) none :: .op (POper.mk (some 3) (.move (.tmp 53)) none) none :: .op (POper.mk (some 4) (.move (.const (.int .i64 0))) none) none :: []
def field_one_w39 : WC := (.region field_one_o39_0)
def field_one_w38 : WC := (.seq field_one_w39 .ret)
def field_one_w36 : WC := (.seq field_one_w37 field_one_w38)
def field_one_o42_0 : List WOp := .op (POper.mk (some 55) (.move (.tmp 8)) none) none :: .op (POper.mk (some 56) (.move (.tmp 0)) none) none :: .op (POper.mk (some 57) (.len (.tmp 56)) none) none :: .op (POper.mk (some 58) (.conv .u64 (.tmp 57)) none) none :: .op (POper.mk (some 59) (.bin .gtr (.tmp 55) (.tmp 58)) none) none :: .op (POper.mk (some 54) (.move (.tmp 59)) none) none :: []
def field_one_w42 : WC := (.region field_one_o42_0)
def field_one_o45_0 : List WOp := .op (POper.mk (some 60) (.build [(.d (.int .i64 0)), (.d (.bool false)), (.d (.int .u64 0)), .nilsl] []) none) none :: .op (POper.mk none (.store 4 (.tmp 2) (.tmp 60)) none) none :: .op (POper.mk (some 3) (.move (.const (.slice .none 0 0))) none) none :: .op (POper.mk (some 4) (.move (.const (.int .i64 3))) none) none :: []
def field_one_w45 : WC := (.region field_one_o45_0)
def field_one_w44 : WC := (.seq field_one_w45 .ret)
def field_one_w43 : WC := (.cond (.tmp 54) field_one_w44 .skip)
def field_one_w41 : WC := (.seq field_one_w42 field_one_w43)
def field_one_w35 : WC := (.cond (.tmp 46) field_one_w36 field_one_w41)
def field_one_w33 : WC := (.seq field_one_w34 field_one_w35)
def field_one_w29 : WC := (.cond (.tmp 41) field_one_w30 field_one_w33)
def field_one_w27 : WC := (.seq field_one_w28 field_one_w29)
def field_one_w26 : WC := (.block 0 field_one_w27)
def field_one_o49_4 : List WOp := .op (POper.mk (some 65) (.faddr 3 (.tmp 7)) none) none :: .op (POper.mk none (.store 1 (.tmp 65) (.tmp 64)) none) none :: []
def field_one_o49_0 : List WOp := .op (POper.mk (some 61) (.move (.tmp 0)) none) none :: .op (POper.mk (some 62) (.move (.tmp 8)) none) none :: .op (POper.mk (some 63) (.slice 1 (.tmp 61) .none (.some (.tmp 62)) .none) none) none :: .ann [.mask [0, 2, 7, 8, 63], .gc] :: .op (POper.mk (some 64) (.callf 29 [(.tmp 63)]) none) none :: field_one_o49_4
def field_one_w49 : WC := (.region field_one_o49_0)
def field_one_o51_0 : List WOp := .op (POper.mk (some 66) (.loadN 4 (.tmp 7)) none) none :: .op (POper.mk (some 67) (.move (.tmp 0)) none) none :: .op (POper.mk (some 68) (.move (.tmp 8)) none) none :: .op (POper.mk (some 69) (.slice 1 (.tmp 67) (.some (.tmp 68)) .none .none) none) none :: .op (POper.mk none (.store 4 (.tmp 2) (.tmp 66)) none) none :: .op (POper.mk (some 3) (.move (.tmp 69)) none) none :: .op (POper.mk (some 4) (.move (.const (.int .i64 0))) none) none :: []
def field_one_e51 : List (List Nat) := [[], [], [], [1, 2], [0], [3, 1, 2, 4, 0], [5, 3, 1, 2, 4, 0]]
def field_one_w51 : WC := (.dregion field_one_o51_0 field_one_e51)
def field_one_w50 : WC := (.seq field_one_w51 .ret)
def field_one_w48 : WC := (.seq field_one_w49 field_one_w50)
def field_one_w25 : WC := (.seq field_one_w26 field_one_w48)
def field_one_w23 : WC := (.seq field_one_w24 field_one_w25)
def field_one_w21 : WC := (.seq field_one_w22 field_one_w23)
def field_one_w13 : WC := (.seq field_one_w14 (.ann [.mask [0, 2, 5], .gc] (.cut field_one_w21)))
def field_one_w5 : WC := (.seq field_one_w6 field_one_w13)
def field_one_w3 : WC := (.seq field_one_w4 field_one_w5)
def field_one_w1 : WC := (.seq field_one_w2 field_one_w3)
theorem field_one_rc : resolveC Try.prog [] (Try.f31.body.getD .skip) = some (WC.er field_one_w1) := by kernel_rfl
theorem field_one_rr : resolveR Try.prog Try.f31.results.toList = some [(.loadN 4 (.tmp 2)), (.move (.tmp 3)), (.move (.tmp 4))] := by kernel_rfl
def field_one (b0 : List Int) (Q : (eR0.T × List Int × Int) → Prop) : Prop := Run Try.prog 0 (FinS Try.prog 0 Try.f31 (field_one_R Q)) [.code field_one_w1] [(.sl eU8 b0), .und, .und, .und, .und, .und, .und, .und, .und, .und, .und, .und, .und, .und, .und, .und, .und, .und, .und, .und, .und, .und, .und, .und, .und, .und, .und, .und, .und, .und, .und, .und, .und, .und, .und, .und, .und, .und, .und, .und, .und, .und, .und, .und, .und, .und, .und, .und, .und, .und, .und, .und, .und, .und, .und, .und, .und, .und, .und, .und, .und, .und, .und, .und, .und, .und, .und, .und, .und, .und] []
def field_one_c1 (b0 : List Int) (Q : (eR0.T × List Int × Int) → Prop) : Prop := Run Try.prog 0 (FinS Try.prog 0 Try.f31 (field_one_R Q)) [.ops (.op (POper.mk (some 11) (.callf 33 [(.tmp 10)]) none) none :: field_one_o4_2), .code field_one_w5] [.dead, .dead, (.ptr 0 0), .dead, .dead, .dead, .dead, .dead, .dead, .dead, (.sl eU8 b0), .dead, .dead, .dead, .dead, .dead, .dead, .dead, .dead, .dead, .dead, .dead, .dead, .dead, .dead, .dead, .dead, .dead, .dead, .dead, .dead, .dead, .dead, .dead, .dead, .dead, .dead, .dead, .dead, .dead, .dead, .dead, .dead, .dead, .dead, .dead, .dead, .dead, .dead, .dead, .dead, .dead, .dead, .dead, .dead, .dead, .dead, .dead, .dead, .dead, .dead, .dead, .dead, .dead, .dead, .dead, .dead, .dead, .dead, .dead] [(.arr [(.int .i64 0), (.bool false), (.int .u64 0), .nilsl])]
def field_one_k1 (r1 : Int × List Int × Int) (x2 : Bool) (Q : (eR0.T × List Int × Int) → Prop) : Prop := Run Try.prog 0 (FinS Try.prog 0 Try.f31 (field_one_R Q)) [.code field_one_w16, .code (.ann [.mask [0, 2, 5], .gc] (.cut field_one_w21))] [(.sl eU8 r1.2.1), .dead, (.ptr 0 0), .dead, .dead, (.int .u64 r1.1), .dead, .dead, .dead, .dead, .dead, .dead, .dead, .dead, .dead, .dead, .dead, .dead, .dead, .dead, .dead, .dead, .dead, .dead, .dead, .dead, (.bool x2), .dead, .dead, .dead, .dead, .dead, .dead, .dead, .dead, .dead, .dead, .dead, .dead, .dead, .dead, .dead, .dead, .dead, .dead, .dead, .dead, .dead, .dead, .dead, .dead, .dead, .dead, .dead, .dead, .dead, .dead, .dead, .dead, .dead, .dead, .dead, .dead, .dead, .dead, .dead, .dead, .dead, .dead, .dead] [(.arr [(.int .i64 0), (.bool false), (.int .u64 0), .nilsl])]
def field_one_k2 (r1 : Int × List Int × Int) (Q : (eR0.T × List Int × Int) → Prop) : Prop := Run Try.prog 0 (FinS Try.prog 0 Try.f31 (field_one_R Q)) [.code field_one_w21] [(.sl eU8 r1.2.1), .dead, (.ptr 0 0), .dead, .dead, (.int .u64 r1.1), .dead, .dead, .dead, .dead, .dead, .dead, .dead, .dead, .dead, .dead, .dead, .dead, .dead, .dead, .dead, .dead, .dead, .dead, .dead, .dead, .dead, .dead, .dead, .dead, .dead, .dead, .dead, .dead, .dead, .dead, .dead, .dead, .dead, .dead, .dead, .dead, .dead, .dead, .dead, .dead, .dead, .dead, .dead, .dead, .dead, .dead, .dead, .dead, .dead, .dead, .dead, .dead, .dead, .dead, .dead, .dead, .dead, .dead, .dead, .dead, .dead, .dead, .dead, .dead] [(.arr [(.int .i64 0), (.bool false), (.int .u64 0), .nilsl])]
def field_one_c2 (r1 : Int × List Int × Int) (Q : (eR0.T × List Int × Int) → Prop) : Prop := Run Try.prog 0 (FinS Try.prog 0 Try.f31 (field_one_R Q)) [.ops (.op (POper.mk (some 37) (.callf 33 [(.tmp 36)]) none) none :: field_one_o24_2), .code field_one_w25] [.dead, .dead, (.ptr 0 0), .dead, .dead, .dead, .dead, (.ptr 1 0), .dead, .dead, .dead, .dead, .dead, .dead, .dead, .dead, .dead, .dead, .dead, .dead, .dead, .dead, .dead, .dead, .dead, .dead, .dead, .dead, .dead, .dead, .dead, .dead, .dead, .dead, .dead, .dead, (.sl eU8 r1.2.1), .dead, .dead, .dead, .dead, .dead, .dead, .dead, .dead, .dead, .dead, .dead, .dead, .dead, .dead, .dead, .dead, .dead, .dead, .dead, .dead, .dead, .dead, .dead, .dead, .dead, .dead, .dead, .dead, .dead, .dead, .dead, .dead, .dead] [(.arr [(.int .i64 0), (.bool false), (.int .u64 0), .nilsl]), (.arr [(.int .i64 (convK .i64 (shrK .u64 r1.1 1))), (.bool (decide ((andK .u64 r1.1 1) > 0))), (.int .u64 0), .nilsl])]
def field_one_c3 (r3 : Int × List Int × Int) (r1 : Int × List Int × Int) (Q : (eR0.T × List Int × Int) → Prop) : Prop := Run Try.prog 0 (FinS Try.prog 0 Try.f31 (field_one_R Q)) [.ops (.op (POper.mk (some 64) (.callf 29 [(.tmp 63)]) none) none :: field_one_o49_4), .code field_one_w50] [(.sl eU8 r3.2.1), .dead, (.ptr 0 0), .dead, .dead, .dead, .dead, (.ptr 1 0), (.int .u64 r3.1), .dead, .dead, .dead, .dead, .dead, .dead, .dead, .dead, .dead, .dead, .dead, .dead, .dead, .dead, .dead, .dead, .dead, .dead, .dead, .dead, .dead, .dead, .dead, .dead, .dead, .dead, .dead, .dead, .dead, .dead, .dead, .dead, .dead, .dead, .dead, .dead, .dead, .dead, .dead, .dead, .dead, .dead, .dead, .dead, .dead, .dead, .dead, .dead, .dead, .dead, .dead, .dead, .dead, .dead, (.sl eU8 (r3.2.1.take r3.1.toNat)), .dead, .dead, .dead, .dead, .dead, .dead] [(.arr [(.int .i64 0), (.bool false), (.int .u64 0), .nilsl]), (.arr [(.int .i64 (convK .i64 (shrK .u64 r1.1 1))), (.bool (decide ((andK .u64 r1.1 1) > 0))), (.int .u64 0), .nilsl])]
theorem field_one_step (b0 : List Int) {Q : (eR0.T × List Int × Int) → Prop} (h :
    field_one_c1 b0 Q) : field_one b0 Q :=
  adv_go 6000 mixed field_one_rr (fa := [.fit (.s 0 [0, 3]) eU8, .fit (.s 0 [1]) eU8, .gc]) (by kernel_rfl) h
theorem field_one_c1_step (b0 : List Int) {Q : (eR0.T × List Int × Int) → Prop} (r1 : Int × List Int × Int) (hc : field_number b0 (fun x => x = r1)) (h :
    Br (r1.2.2 != 0)
      (field_one_ret Q ((0, false, 0, []), [], r1.2.2))
      ((0 ≤ (1 : Int)) ∧
      Br (decide ((shrK .u64 r1.1 1) < 1))
        (field_one_k1 r1 true Q)
        ((0 ≤ (1 : Int)) ∧
        field_one_k1 r1 (decide ((shrK .u64 r1.1 1) > 1000)) Q))) : field_one_c1 b0 Q :=
  run_callf (tout := (lendOut [] 1 (field_number_enc r1) (field_number_obj r1))) (call_typed [] (field_number_ok b0 r1 hc) (by kernel_rfl) (by kernel_rfl) (by kernel_rfl)) (adv_go 6000 mixed field_one_rr (fa := [.fit (.s 0 [0, 3]) eU8, .fit (.s 0 [1]) eU8, .gc]) (by kernel_rfl) h)
theorem field_one_k1_step (r1 : Int × List Int × Int) (x2 : Bool) {Q : (eR0.T × List Int × Int) → Prop} (h :
    Br (x2)
      (field_one_ret Q ((0, false, 0, []), [], 4))
      (field_one_k2 r1 Q)) : field_one_k1 r1 x2 Q :=
  adv_go 6000 mixed field_one_rr (fa := [.fit (.s 0 [0, 3]) eU8, .fit (.s 0 [1]) eU8, .gc]) (by kernel_rfl) h
theorem field_one_k2_step (r1 : Int × List Int × Int) {Q : (eR0.T × List Int × Int) → Prop} (h :
    (0 ≤ (1 : Int)) ∧
    field_one_c2 r1 Q) : field_one_k2 r1 Q :=
  adv_go 6000 mixed field_one_rr (fa := [.fit (.s 0 [0, 3]) eU8, .fit (.s 0 [1]) eU8, .gc]) (by kernel_rfl) h
theorem field_one_c2_step (r1 : Int × List Int × Int) {Q : (eR0.T × List Int × Int) → Prop} (r3 : Int × List Int × Int) (hc : field_number r1.2.1 (fun x => x = r3)) (h :
    Br (r3.2.2 != 0)
      (field_one_ret Q ((0, false, 0, []), [], r3.2.2))
      (Br (!(decide ((andK .u64 r1.1 1) > 0)))
        (field_one_ret Q ((convK .i64 (shrK .u64 r1.1 1), decide ((andK .u64 r1.1 1) > 0), r3.1, []), r3.2.1, 0))
        (Br (decide (r3.1 > (convK .u64 (r3.2.1.length : Int))))
          (field_one_ret Q ((0, false, 0, []), [], 3))
          ((0 ≤ r3.1 ∧ r3.1 ≤ (r3.2.1.length : Int)) ∧
          field_one_c3 r3 r1 Q)))) : field_one_c2 r1 Q :=
  run_callf (tout := (lendOut [] 2 (field_number_enc r3) (field_number_obj r3))) (call_typed [] (field_number_ok r1.2.1 r3 hc) (by kernel_rfl) (by kernel_rfl) (by kernel_rfl)) (adv_go 6000 mixed field_one_rr (fa := [.fit (.s 0 [0, 3]) eU8, .fit (.s 0 [1]) eU8, .gc]) (by kernel_rfl) h)
theorem field_one_c3_step (r3 : Int × List Int × Int) (r1 : Int × List Int × Int) {Q : (eR0.T × List Int × Int) → Prop} (r4 : List Int) (hc : slices_Clone_byte_byte (r3.2.1.take r3.1.toNat) (fun x => x = r4)) (h :
    (0 ≤ r3.1 ∧ r3.1 ≤ (r3.2.1.length : Int)) ∧
    (r4.length = r4.length) ∧
    field_one_ret Q ((convK .i64 (shrK .u64 r1.1 1), decide ((andK .u64 r1.1 1) > 0), 0, r4), r3.2.1.drop r3.1.toNat, 0)) : field_one_c3 r3 r1 Q :=
  run_callf (tout := (lendOut [] 2 (slices_Clone_byte_byte_enc r4) (slices_Clone_byte_byte_obj r4))) (call_typed [] (slices_Clone_byte_byte_ok (r3.2.1.take r3.1.toNat) r4 hc) (by kernel_rfl) (by kernel_rfl) (by kernel_rfl)) (adv_go 6000 mixed field_one_rr (fa := [.fit (.s 0 [0, 3]) eU8, .fit (.s 0 [1]) eU8, .gc]) (by kernel_rfl) h)
theorem field_one_act (b0 : List Int) {Q : (eR0.T × List Int × Int) → Prop} (h : field_one b0 Q) : ACT Try.prog 31 [(.sl eU8 b0)] [] (field_one_R Q) :=
  act_go Try.func31 (by rfl) (by kernel_rfl) field_one_rc (n0 := 0) rfl (by kernel_rfl) h
theorem field_one_ok (b0 : List Int) (r : (eR0.T × List Int × Int)) (h : field_one b0 (fun x => x = r)) : ACT Try.prog 31 [(.sl eU8 b0)] [] (fun tv tL => tv = field_one_enc r ∧ tL = field_one_obj r) := act_det (field_one_act b0 h)

/-! drover/field.Read -/
def field_Read_enc  : (Int × List eR0.T) → TV := fun r => (.tup [(.vf 0 eR0 r.2.length false), (.int .i64 r.1)])
def field_Read_obj  : (Int × List eR0.T) → List TO := fun r => [(.vec eR0 r.2)]
def field_Read_R  (Q : (Int × List eR0.T) → Prop) : TV → List TO → Prop := RetR (field_Read_enc) (field_Read_obj) Q
def field_Read_ret  (Q : (Int × List eR0.T) → Prop) (r : (Int × List eR0.T)) : Prop := field_Read_R Q (field_Read_enc r) (field_Read_obj r)
theorem field_Read_ret.intro  {Q : (Int × List eR0.T) → Prop} {r : (Int × List eR0.T)} (h : Q r) : field_Read_ret Q r := RetR.intro h
def field_Read_o2_0 : List WOp := .op (POper.mk (some 2) (.move (.const (.slice .none 0 0))) none) none :: .op (POper.mk (some 3) (.move (.const (.int .i64 0))) none) none :: []
def field_Read_w2 : WC := (.region field_Read_o2_0)
def field_Read_o4_0 : List WOp := .op (POper.mk (some 4) (.move (.const (.slice .none 0 0))) none) none :: []
def field_Read_w4 : WC := (.region field_Read_o4_0)
def field_Read_o10_0 : List WOp := .op (POper.mk (some 8) (.move (.tmp 0)) none) none :: .op (POper.mk (some 9) (.len (.tmp 8)) none) none :: .op (POper.mk (some 10) (.bin .gtr (.tmp 9) (.const (.int .i64 0))) none) none :: []
def field_Read_w10 : WC := (.region field_Read_o10_0)
def field_Read_w11 : WC := (.cond (.tmp 10) .skip (.exit 0))
def field_Read_w9 : WC := (.seq field_Read_w10 field_Read_w11)
def field_Read_o16_2 : List WOp := .op (POper.mk (some 11) (.move (.tmp 13)) none) none :: .op (POper.mk (some 14) (.extract (.tmp 11) 0) none) none :: .op (POper.mk (some 15) (.extract (.tmp 11) 1) none) none :: .op (POper.mk (some 16) (.extract (.tmp 11) 2) none) none :: .op (POper.mk (some 5) (.alloc [(.d (.int .i64 0)), (.d (.bool false)), (.d (.int .u64 0)), .nilsl]) none) none :: .op (POper.mk none (.store 4 (.tmp 5) (.tmp 14)) none) none :: .op (POper.mk (some 6) (.move (.tmp 15)) none) none :: .op (POper.mk (some 7) (.move (.tmp 16)) none) none :: []
def field_Read_o16_0 : List WOp := .op (POper.mk (some 12) (.move (.tmp 0)) none) none :: .ann [.mask [4, 12], .gc] :: .op (POper.mk (some 13) (.callf 31 [(.tmp 12)]) none) none :: field_Read_o16_2
def field_Read_w16 : WC := (.region field_Read_o16_0)
def field_Read_o19_0 : List WOp := .op (POper.mk (some 17) (.move (.tmp 7)) none) none :: .op (POper.mk (some 18) (.bin .neq (.tmp 17) (.const (.int .i64 0))) none) none :: []
def field_Read_w19 : WC := (.region field_Read_o19_0)
def field_Read_o22_0 : List WOp := .op (POper.mk (some 19) (.move (.tmp 7)) none) none :: .op (POper.mk (some 2) (.move (.const (.slice .none 0 0))) none) none :: .op (POper.mk (some 3) (.move (.tmp 19)) none) none :: []
def field_Read_w22 : WC := (.region field_Read_o22_0)
def field_Read_w21 : WC := (.seq field_Read_w22 .ret)
def field_Read_w20 : WC := (.cond (.tmp 18) field_Read_w21 .skip)
def field_Read_w18 : WC := (.seq field_Read_w19 field_Read_w20)
def field_Read_o26_0 : List WOp := .op (POper.mk (some 20) (.move (.tmp 4)) none) none :: .op (POper.mk (some 21) (.loadN 4 (.tmp 5)) none) none :: .op (POper.mk (some 22) (.bslice 4 1 [(.d (.int .i64 0)), (.d (.bool false)), (.d (.int .u64 0)), .nilsl] [(0, (4, (.tmp 21)))]) none) none :: .op (POper.mk (some 23) (.append 4 48 (.tmp 20) (.tmp 22)) none) (some eR0) :: .op (POper.mk (some 4) (.move (.tmp 23)) none) none :: []
def field_Read_w26 : WC := (.region field_Read_o26_0)
def field_Read_o27_0 : List WOp := .op (POper.mk (some 24) (.move (.tmp 6)) none) none :: .op (POper.mk (some 0) (.move (.tmp 24)) none) none :: []
def field_Read_w27 : WC := (.region field_Read_o27_0)
def field_Read_w25 : WC := (.seq field_Read_w26 field_Read_w27)
def field_Read_w17 : WC := (.seq field_Read_w18 field_Read_w25)
def field_Read_w15 : WC := (.seq field_Read_w16 field_Read_w17)
def field_Read_w14 : WC := (.block 1 field_Read_w15)
def field_Read_w8 : WC := (.seq field_Read_w9 field_Read_w14)
def field_Read_w7 : WC := (.loop [.mask [0, 4], .own (.s 4 []) eR0, .gc] field_Read_w8)
def field_Read_w6 : WC := (.block 0 (.ann [.mask [0, 4], .own (.s 4 []) eR0, .gc] field_Read_w7))
def field_Read_o29_0 : List WOp := .op (POper.mk (some 25) (.move (.tmp 4)) none) none :: .op (POper.mk (some 2) (.move (.tmp 25)) none) none :: .op (POper.mk (some 3) (.move (.const (.int .i64 0))) none) none :: []
def field_Read_w29 : WC := (.region field_Read_o29_0)
def field_Read_w28 : WC := (.seq field_Read_w29 .ret)
def field_Read_w5 : WC := (.seq field_Read_w6 field_Read_w28)
def field_Read_w3 : WC := (.seq field_Read_w4 field_Read_w5)
def field_Read_w1 : WC := (.seq field_Read_w2 field_Read_w3)
theorem field_Read_rc : resolveC Try.prog [] (Try.f27.body.getD .skip) = some (WC.er field_Read_w1) := by kernel_rfl
theorem field_Read_rr : resolveR Try.prog Try.f27.results.toList = some [(.move (.tmp 2)), (.move (.tmp 3))] := by kernel_rfl
def field_Read (b0 : List Int) (Q : (Int × List eR0.T) → Prop) : Prop := Run Try.prog 0 (FinS Try.prog 0 Try.f27 (field_Read_R Q)) [.code field_Read_w1] [(.sl eU8 b0), .und, .und, .und, .und, .und, .und, .und, .und, .und, .und, .und, .und, .und, .und, .und, .und, .und, .und, .und, .und, .und, .und, .und, .und, .und] []
def field_Read_l1 (b2 : List Int) (l1 : List eR0.T) (Q : (Int × List eR0.T) → Prop) : Prop := Run Try.prog 0 (FinS Try.prog 0 Try.f27 (field_Read_R Q)) [.lp [.mask [0, 4], .own (.s 4 []) eR0, .gc] field_Read_w8, .bend 0, .code field_Read_w28] [(.sl eU8 b2), .dead, .dead, .dead, (.vf 0 eR0 l1.length false), .dead, .dead, .dead, .dead, .dead, .dead, .dead, .dead, .dead, .dead, .dead, .dead, .dead, .dead, .dead, .dead, .dead, .dead, .dead, .dead, .dead] [(.vec eR0 l1)]
def field_Read_c1 (l1 : List eR0.T) (b2 : List Int) (Q : (Int × List eR0.T) → Prop) : Prop := Run Try.prog 0 (FinS Try.prog 0 Try.f27 (field_Read_R Q)) [.ops (.op (POper.mk (some 13) (.callf 31 [(.tmp 12)]) none) none :: field_Read_o16_2), .code field_Read_w17, .bend 1, .lp [.mask [0, 4], .own (.s 4 []) eR0, .gc] field_Read_w8, .bend 0, .code field_Read_w28] [.dead, .dead, .dead, .dead, (.vf 0 eR0 l1.length false), .dead, .dead, .dead, .dead, .dead, .dead, .dead, (.sl eU8 b2), .dead, .dead, .dead, .dead, .dead, .dead, .dead, .dead, .dead, .dead, .dead, .dead, .dead] [(.vec eR0 l1)]
theorem field_Read_step (b0 : List Int) {Q : (Int × List eR0.T) → Prop} (h :
    field_Read_l1 b0 ([]) Q) : field_Read b0 Q :=
  adv_go 6000 mixed field_Read_rr (fa := [.own (.s 0 [0]) eR0, .gc]) (by kernel_rfl) h
theorem field_Read_l1_step (b2 : List Int) (l1 : List eR0.T) {Q : (Int × List eR0.T) → Prop} (h :
    Br (decide ((b2.length : Int) > 0))
      (field_Read_c1 l1 b2 Q)
      (field_Read_ret Q (0, l1))) : field_Read_l1 b2 l1 Q :=
  run_loop (adv_go 6000 mixed field_Read_rr (fa := [.own (.s 0 [0]) eR0, .gc]) (by kernel_rfl) h)
theorem field_Read_c1_step (l1 : List eR0.T) (b2 : List Int) {Q : (Int × List eR0.T) → Prop} (r3 : eR0.T × List Int × Int) (hc : field_one b2 (fun x => x = r3)) (h :
    Br (r3.2.2 != 0)
      (field_Read_ret Q (r3.2.2, []))
      (((l1.length = l1.length) ∧ (l1.length + 1 ≤ 1099511627776)) ∧
      field_Read_l1 r3.2.1 (l1 ++ ([r3.1])) Q)) : field_Read_c1 l1 b2 Q :=
  run_callf (tout := (lendOut [] 1 (field_one_enc r3) (field_one_obj r3))) (call_typed [] (field_one_ok b2 r3 hc) (by kernel_rfl) (by kernel_rfl) (by kernel_rfl)) (adv_go 6000 mixed field_Read_rr (fa := [.own (.s 0 [0]) eR0, .gc]) (by kernel_rfl) h)
theorem field_Read_act (b0 : List Int) {Q : (Int × List eR0.T) → Prop} (h : field_Read b0 Q) : ACT Try.prog 27 [(.sl eU8 b0)] [] (field_Read_R Q) :=
  act_go Try.func27 (by rfl) (by kernel_rfl) field_Read_rc (n0 := 0) rfl (by kernel_rfl) h
theorem field_Read_ok (b0 : List Int) (r : (Int × List eR0.T)) (h : field_Read b0 (fun x => x = r)) : ACT Try.prog 27 [(.sl eU8 b0)] [] (fun tv tL => tv = field_Read_enc r ∧ tL = field_Read_obj r) := act_det (field_Read_act b0 h)

/-! drover/droverlaw01.plain -/
def law01_plain_enc  : List eR0.T → TV := fun r => (.vf 0 eR0 r.length false)
def law01_plain_obj  : List eR0.T → List TO := fun r => [(.vec eR0 r)]
def law01_plain_R  (Q : List eR0.T → Prop) : TV → List TO → Prop := RetR (law01_plain_enc) (law01_plain_obj) Q
def law01_plain_ret  (Q : List eR0.T → Prop) (r : List eR0.T) : Prop := law01_plain_R Q (law01_plain_enc r) (law01_plain_obj r)
theorem law01_plain_ret.intro  {Q : List eR0.T → Prop} {r : List eR0.T} (h : Q r) : law01_plain_ret Q r := RetR.intro h
def law01_plain_o2_0 : List WOp := .op (POper.mk (some 2) (.move (.const (.slice .none 0 0))) none) none :: []
def law01_plain_w2 : WC := (.region law01_plain_o2_0)
def law01_plain_o4_0 : List WOp := .op (POper.mk (some 3) (.move (.const (.slice .none 0 0))) none) none :: []
def law01_plain_w4 : WC := (.region law01_plain_o4_0)
def law01_plain_o7_0 : List WOp := .op (POper.mk (some 6) (.move (.tmp 0)) none) none :: .op (POper.mk (some 7) (.len (.tmp 6)) none) none :: .op (POper.mk (some 8) (.move (.const (.int .i64 0))) none) none :: []
def law01_plain_w7 : WC := (.region law01_plain_o7_0)
def law01_plain_o11_0 : List WOp := .op (POper.mk (some 9) (.bin .lss (.tmp 8) (.tmp 7)) none) none :: []
def law01_plain_w11 : WC := (.region law01_plain_o11_0)
def law01_plain_w13 : WC := (.cond (.tmp 9) .skip (.exit 0))
def law01_plain_o19_0 : List WOp := .op (POper.mk (some 10) (.iaddr 4 (.tmp 6) (.tmp 8)) none) none :: .op (POper.mk (some 11) (.loadN 4 (.tmp 10)) none) none :: .op (POper.mk (some 5) (.alloc [(.d (.int .i64 0)), (.d (.bool false)), (.d (.int .u64 0)), .nilsl]) none) none :: .op (POper.mk none (.store 4 (.tmp 5) (.tmp 11)) none) none :: []
def law01_plain_w19 : WC := (.region law01_plain_o19_0)
def law01_plain_o20_0 : List WOp := .op (POper.mk (some 12) (.move (.tmp 3)) none) none :: .op (POper.mk (some 13) (.loadN 4 (.tmp 5)) none) none :: .op (POper.mk (some 14) (.bslice 4 1 [(.d (.int .i64 0)), (.d (.bool false)), (.d (.int .u64 0)), .nilsl] [(0, (4, (.tmp 13)))]) none) none :: .op (POper.mk (some 15) (.append 4 48 (.tmp 12) (.tmp 14)) none) (some eR0) :: .op (POper.mk (some 3) (.move (.tmp 15)) none) none :: []
def law01_plain_w20 : WC := (.region law01_plain_o20_0)
def law01_plain_w18 : WC := (.seq law01_plain_w19 law01_plain_w20)
def law01_plain_w17 : WC := (.block 1 law01_plain_w18)
def law01_plain_o21_0 : List WOp := .op (POper.mk (some 16) (.bin .add (.tmp 8) (.const (.int .i64 1))) none) none :: .op (POper.mk (some 8) (.move (.tmp 16)) none) none :: []
def law01_plain_w21 : WC := (.region law01_plain_o21_0)
def law01_plain_w16 : WC := (.seq law01_plain_w17 law01_plain_w21)
def law01_plain_w12 : WC := (.seq law01_plain_w13 law01_plain_w16)
def law01_plain_w10 : WC := (.seq law01_plain_w11 law01_plain_w12)
def law01_plain_w9 : WC := (.loop [.mask [3, 6, 7, 8], .own (.s 3 []) eR0, .gc] law01_plain_w10)
def law01_plain_w8 : WC := (.block 0 (.ann [.mask [3, 6, 7, 8], .own (.s 3 []) eR0, .gc] law01_plain_w9))
def law01_plain_w6 : WC := (.seq law01_plain_w7 law01_plain_w8)
def law01_plain_o23_0 : List WOp := .op (POper.mk (some 17) (.move (.tmp 3)) none) none :: .op (POper.mk (some 2) (.move (.tmp 17)) none) none :: []
def law01_plain_w23 : WC := (.region law01_plain_o23_0)
def law01_plain_w22 : WC := (.seq law01_plain_w23 .ret)
def law01_plain_w5 : WC := (.seq law01_plain_w6 law01_plain_w22)
def law01_plain_w3 : WC := (.seq law01_plain_w4 law01_plain_w5)
def law01_plain_w1 : WC := (.seq law01_plain_w2 law01_plain_w3)
theorem law01_plain_rc : resolveC Try.prog [] (Try.f14.body.getD .skip) = some (WC.er law01_plain_w1) := by kernel_rfl
theorem law01_plain_rr : resolveR Try.prog Try.f14.results.toList = some [(.move (.tmp 2))] := by kernel_rfl
def law01_plain (l0 : List eR0.T) (Q : List eR0.T → Prop) : Prop := Run Try.prog 0 (FinS Try.prog 0 Try.f14 (law01_plain_R Q)) [.code law01_plain_w1] [(.sl eR0 l0), .und, .und, .und, .und, .und, .und, .und, .und, .und, .und, .und, .und, .und, .und, .und, .und, .und] []
def law01_plain_l1 (out1 : List eR0.T) (l0 : List eR0.T) (x2 : Int) (Q : List eR0.T → Prop) : Prop := Run Try.prog 0 (FinS Try.prog 0 Try.f14 (law01_plain_R Q)) [.lp [.mask [3, 6, 7, 8], .own (.s 3 []) eR0, .gc] law01_plain_w10, .bend 0, .code law01_plain_w22] [.dead, .dead, .dead, (.vf 0 eR0 out1.length false), .dead, .dead, (.sl eR0 l0), (.int .i64 (l0.length : Int)), (.int .i64 x2), .dead, .dead, .dead, .dead, .dead, .dead, .dead, .dead, .dead] [(.vec eR0 out1)]
theorem law01_plain_step (l0 : List eR0.T) {Q : List eR0.T → Prop} (h :
    law01_plain_l1 ([]) l0 0 Q) : law01_plain l0 Q :=
  adv_go 6000 mixed law01_plain_rr (fa := [.own (.s 0 []) eR0, .gc]) (by kernel_rfl) h
theorem law01_plain_l1_step (out1 : List eR0.T) (l0 : List eR0.T) (x2 : Int) {Q : List eR0.T → Prop} (h :
    Br (decide (x2 < (l0.length : Int)))
      ((0 ≤ x2 ∧ x2.toNat < l0.length) ∧
      ((out1.length = out1.length) ∧ (out1.length + 1 ≤ 1099511627776)) ∧
      law01_plain_l1 (out1 ++ ([(rd eR0 l0 x2.toNat)])) l0 (addK .i64 x2 1) Q)
      (law01_plain_ret Q out1)) : law01_plain_l1 out1 l0 x2 Q :=
  run_loop (adv_go 6000 mixed law01_plain_rr (fa := [.own (.s 0 []) eR0, .gc]) (by kernel_rfl) h)
theorem law01_plain_act (l0 : List eR0.T) {Q : List eR0.T → Prop} (h : law01_plain l0 Q) : ACT Try.prog 14 [(.sl eR0 l0)] [] (law01_plain_R Q) :=
  act_go Try.func14 (by rfl) (by kernel_rfl) law01_plain_rc (n0 := 0) rfl (by kernel_rfl) h
theorem law01_plain_ok (l0 : List eR0.T) (r : List eR0.T) (h : law01_plain l0 (fun x => x = r)) : ACT Try.prog 14 [(.sl eR0 l0)] [] (fun tv tL => tv = law01_plain_enc r ∧ tL = law01_plain_obj r) := act_det (law01_plain_act l0 h)

/-! drover/droverref01.Same -/
def ref01_Same_enc  : Bool → TV := fun r => (.bool r)
def ref01_Same_obj  : Bool → List TO := fun r => []
def ref01_Same_R  (Q : Bool → Prop) : TV → List TO → Prop := RetR (ref01_Same_enc) (ref01_Same_obj) Q
def ref01_Same_ret  (Q : Bool → Prop) (r : Bool) : Prop := ref01_Same_R Q (ref01_Same_enc r) (ref01_Same_obj r)
theorem ref01_Same_ret.intro  {Q : Bool → Prop} {r : Bool} (h : Q r) : ref01_Same_ret Q r := RetR.intro h
def ref01_Same_o2_0 : List WOp := .op (POper.mk (some 4) (.move (.const (.bool false))) none) none :: []
def ref01_Same_w2 : WC := (.region ref01_Same_o2_0)
def ref01_Same_o5_0 : List WOp := .op (POper.mk (some 6) (.move (.tmp 0)) none) none :: .op (POper.mk (some 7) (.len (.tmp 6)) none) none :: .op (POper.mk (some 8) (.move (.tmp 1)) none) none :: .op (POper.mk (some 9) (.len (.tmp 8)) none) none :: .op (POper.mk (some 10) (.bin .neq (.tmp 7) (.tmp 9)) none) none :: []
def ref01_Same_w5 : WC := (.region ref01_Same_o5_0)
def ref01_Same_o8_0 : List WOp := .op (POper.mk (some 4) (.move (.const (.bool false))) none) none :: []
def ref01_Same_w8 : WC := (.region ref01_Same_o8_0)
def ref01_Same_w7 : WC := (.seq ref01_Same_w8 .ret)
def ref01_Same_w6 : WC := (.cond (.tmp 10) ref01_Same_w7 .skip)
def ref01_Same_w4 : WC := (.seq ref01_Same_w5 ref01_Same_w6)
def ref01_Same_o13_0 : List WOp := .op (POper.mk (some 11) (.move (.tmp 0)) none) none :: .op (POper.mk (some 12) (.len (.tmp 11)) none) none :: .op (POper.mk (some 13) (.move (.const (.int .i64 0))) none) none :: []
def ref01_Same_w13 : WC := (.region ref01_Same_o13_0)
def ref01_Same_o17_0 : List WOp := .op (POper.mk (some 14) (.bin .lss (.tmp 13) (.tmp 12)) none) none :: []
def ref01_Same_w17 : WC := (.region ref01_Same_o17_0)
def ref01_Same_w19 : WC := (.cond (.tmp 14) .skip (.exit 0))
def ref01_Same_o25_0 : List WOp := .op (POper.mk (some 15) (.move (.tmp 13)) none) none :: .op (POper.mk (some 5) (.move (.tmp 15)) none) none :: []
def ref01_Same_w25 : WC := (.region ref01_Same_o25_0)
def ref01_Same_o27_0 : List WOp := .op (POper.mk (some 16) (.move (.tmp 0)) none) none :: .op (POper.mk (some 17) (.move (.tmp 5)) none) none :: .op (POper.mk (some 18) (.iaddr 4 (.tmp 16) (.tmp 17)) none) none :: .op (POper.mk (some 19) (.faddr 0 (.tmp 18)) none) none :: .op (POper.mk (some 20) (.load1 (.tmp 19)) none) none :: .op (POper.mk (some 21) (.move (.tmp 1)) none) none :: .op (POper.mk (some 22) (.move (.tmp 5)) none) none :: .op (POper.mk (some 23) (.iaddr 4 (.tmp 21) (.tmp 22)) none) none :: .op (POper.mk (some 24) (.faddr 0 (.tmp 23)) none) none :: .op (POper.mk (some 25) (.load1 (.tmp 24)) none) none :: .op (POper.mk (some 26) (.bin .neq (.tmp 20) (.tmp 25)) none) none :: .op (POper.mk (some 27) (.move (.tmp 26)) none) none :: .op (POper.mk (some 28) (.move (.tmp 0)) (some (27, false))) none :: .op (POper.mk (some 29) (.move (.tmp 5)) (some (27, false))) none :: .op (POper.mk (some 30) (.iaddr 4 (.tmp 28) (.tmp 29)) (some (27, false))) none :: .op (POper.mk (some 31) (.faddr 1 (.tmp 30)) (some (27, false))) none :: .op (POper.mk (some 32) (.load1 (.tmp 31)) (some (27, false))) none :: .op (POper.mk (some 33) (.move (.tmp 1)) (some (27, false))) none :: .op (POper.mk (some 34) (.move (.tmp 5)) (some (27, false))) none :: .op (POper.mk (some 35) (.iaddr 4 (.tmp 33) (.tmp 34)) (some (27, false))) none :: .op (POper.mk (some 36) (.faddr 1 (.tmp 35)) (some (27, false))) none :: .op (POper.mk (some 37) (.load1 (.tmp 36)) (some (27, false))) none :: .op (POper.mk (some 38) (.binB true (.tmp 32) (.tmp 37)) (some (27, false))) none :: .op (POper.mk (some 39) (.pick (.tmp 27) (.const (.bool true)) (.tmp 38)) none) none :: .op (POper.mk (some 40) (.move (.tmp 39)) none) none :: .op (POper.mk (some 41) (.move (.tmp 0)) (some (40, false))) none :: .op (POper.mk (some 42) (.move (.tmp 5)) (some (40, false))) none :: .op (POper.mk (some 43) (.iaddr 4 (.tmp 41) (.tmp 42)) (some (40, false))) none :: .op (POper.mk (some 44) (.faddr 2 (.tmp 43)) (some (40, false))) none :: .op (POper.mk (some 45) (.load1 (.tmp 44)) (some (40, false))) none :: .op (POper.mk (some 46) (.move (.tmp 1)) (some (40, false))) none :: .op (POper.mk (some 47) (.move (.tmp 5)) (some (40, false))) none :: .op (POper.mk (some 48) (.iaddr 4 (.tmp 46) (.tmp 47)) (some (40, false))) none :: .op (POper.mk (some 49) (.faddr 2 (.tmp 48)) (some (40, false))) none :: .op (POper.mk (some 50) (.load1 (.tmp 49)) (some (40, false))) none :: .op (POper.mk (some 51) (.bin .neq (.tmp 45) (.tmp 50)) (some (40, false))) none :: .op (POper.mk (some 52) (.pick (.tmp 40) (.const (.bool true)) (.tmp 51)) none) none :: .op (POper.mk (some 53) (.move (.tmp 52)) none) none :: .op (POper.mk (some 54) (.move (.tmp 0)) (some (53, false))) none :: .op (POper.mk (some 55) (.move (.tmp 5)) (some (53, false))) none :: .op (POper.mk (some 56) (.iaddr 4 (.tmp 54) (.tmp 55)) (some (53, false))) none :: .op (POper.mk (some 57) (.faddr 3 (.tmp 56)) (some (53, false))) none :: .op (POper.mk (some 58) (.load1 (.tmp 57)) (some (53, false))) none :: .op (POper.mk (some 59) (.b2s (.tmp 58)) (some (53, false))) none :: .op (POper.mk (some 60) (.move (.tmp 1)) (some (53, false))) none :: .op (POper.mk (some 61) (.move (.tmp 5)) (some (53, false))) none :: .op (POper.mk (some 62) (.iaddr 4 (.tmp 60) (.tmp 61)) (some (53, false))) none :: .op (POper.mk (some 63) (.faddr 3 (.tmp 62)) (some (53, false))) none :: .op (POper.mk (some 64) (.load1 (.tmp 63)) (some (53, false))) none :: .op (POper.mk (some 65) (.b2s (.tmp 64)) (some (53, false))) none :: .op (POper.mk (some 66) (.bin .neq (.tmp 59) (.tmp 65)) (some (53, false))) none :: .op (POper.mk (some 67) (.pick (.tmp 53) (.const (.bool true)) (.tmp 66)) none) none :: []
def ref01_Same_e27 : List (List Nat) := [[], [], [0, 1], [2, 0, 1], [3, 2, 0, 1], [], [], [5, 6], [7, 5, 6], [8, 7, 5, 6], [4, 3, 2, 0, 1, 9, 8, 7, 5, 6], [10, 4, 3, 2, 0, 1, 9, 8, 7, 5, 6], [11, 10, 4, 3, 2, 0, 1, 9, 8, 7, 5, 6], [11, 10, 4, 3, 2, 0, 1, 9, 8, 7, 5, 6], [12, 11, 10, 4, 3, 2, 0, 1, 9, 8, 7, 5, 6, 13], [14, 12, 11, 10, 4, 3, 2, 0, 1, 9, 8, 7, 5, 6, 13], [15, 14, 12, 11, 10, 4, 3, 2, 0, 1, 9, 8, 7, 5, 6, 13], [11, 10, 4, 3, 2, 0, 1, 9, 8, 7, 5, 6], [11, 10, 4, 3, 2, 0, 1, 9, 8, 7, 5, 6], [17, 11, 10, 4, 3, 2, 0, 1, 9, 8, 7, 5, 6, 18], [19, 17, 11, 10, 4, 3, 2, 0, 1, 9, 8, 7, 5, 6, 18], [20, 19, 17, 11, 10, 4, 3, 2, 0, 1, 9, 8, 7, 5, 6, 18], [16, 15, 14, 12, 11, 10, 4, 3, 2, 0, 1, 9, 8, 7, 5, 6, 13, 21, 20, 19, 17, 18], [11, 10, 4, 3, 2, 0, 1, 9, 8, 7, 5, 6, 22, 16, 15, 14, 12, 13, 21, 20, 19, 17, 18], [23, 11, 10, 4, 3, 2, 0, 1, 9, 8, 7, 5, 6, 22, 16, 15, 14, 12, 13, 21, 20, 19, 17, 18], [24, 23, 11, 10, 4, 3, 2, 0, 1, 9, 8, 7, 5, 6, 22, 16, 15, 14, 12, 13, 21, 20, 19, 17, 18], [24, 23, 11, 10, 4, 3, 2, 0, 1, 9, 8, 7, 5, 6, 22, 16, 15, 14, 12, 13, 21, 20, 19, 17, 18], [25, 24, 23, 11, 10, 4, 3, 2, 0, 1, 9, 8, 7, 5, 6, 22, 16, 15, 14, 12, 13, 21, 20, 19, 17, 18, 26], [27, 25, 24, 23, 11, 10, 4, 3, 2, 0, 1, 9, 8, 7, 5, 6, 22, 16, 15, 14, 12, 13, 21, 20, 19, 17, 18, 26], [28, 27, 25, 24, 23, 11, 10, 4, 3, 2, 0, 1, 9, 8, 7, 5, 6, 22, 16, 15, 14, 12, 13, 21, 20, 19, 17, 18, 26], [24, 23, 11, 10, 4, 3, 2, 0, 1, 9, 8, 7, 5, 6, 22, 16, 15, 14, 12, 13, 21, 20, 19, 17, 18], [24, 23, 11, 10, 4, 3, 2, 0, 1, 9, 8, 7, 5, 6, 22, 16, 15, 14, 12, 13, 21, 20, 19, 17, 18], [30, 24, 23, 11, 10, 4, 3, 2, 0, 1, 9, 8, 7, 5, 6, 22, 16, 15, 14, 12, 13, 21, 20, 19, 17, 18, 31], [32, 30, 24, 23, 11, 10, 4, 3, 2, 0, 1, 9, 8, 7, 5, 6, 22, 16, 15, 14, 12, 13, 21, 20, 19, 17, 18, 31], [33, 32, 30, 24, 23, 11, 10, 4, 3, 2, 0, 1, 9, 8, 7, 5, 6, 22, 16, 15, 14, 12, 13, 21, 20, 19, 17, 18, 31], [29, 28, 27, 25, 24, 23, 11, 10, 4, 3, 2, 0, 1, 9, 8, 7, 5, 6, 22, 16, 15, 14, 12, 13, 21, 20, 19, 17, 18, 26, 34, 33, 32, 30, 31], [24, 23, 11, 10, 4, 3, 2, 0, 1, 9, 8, 7, 5, 6, 22, 16, 15, 14, 12, 13, 21, 20, 19, 17, 18, 35, 29, 28, 27, 25, 26, 34, 33, 32, 30, 31], [36, 24, 23, 11, 10, 4, 3, 2, 0, 1, 9, 8, 7, 5, 6, 22, 16, 15, 14, 12, 13, 21, 20, 19, 17, 18, 35, 29, 28, 27, 25, 26, 34, 33, 32, 30, 31], [37, 36, 24, 23, 11, 10, 4, 3, 2, 0, 1, 9, 8, 7, 5, 6, 22, 16, 15, 14, 12, 13, 21, 20, 19, 17, 18, 35, 29, 28, 27, 25, 26, 34, 33, 32, 30, 31], [37, 36, 24, 23, 11, 10, 4, 3, 2, 0, 1, 9, 8, 7, 5, 6, 22, 16, 15, 14, 12, 13, 21, 20, 19, 17, 18, 35, 29, 28, 27, 25, 26, 34, 33, 32, 30, 31], [38, 37, 36, 24, 23, 11, 10, 4, 3, 2, 0, 1, 9, 8, 7, 5, 6, 22, 16, 15, 14, 12, 13, 21, 20, 19, 17, 18, 35, 29, 28, 27, 25, 26, 34, 33, 32, 30, 31, 39], [40, 38, 37, 36, 24, 23, 11, 10, 4, 3, 2, 0, 1, 9, 8, 7, 5, 6, 22, 16, 15, 14, 12, 13, 21, 20, 19, 17, 18, 35, 29, 28, 27, 25, 26, 34, 33, 32, 30, 31, 39], [41, 40, 38, 37, 36, 24, 23, 11, 10, 4, 3, 2, 0, 1, 9, 8, 7, 5, 6, 22, 16, 15, 14, 12, 13, 21, 20, 19, 17, 18, 35, 29, 28, 27, 25, 26, 34, 33, 32, 30, 31, 39], [42, 41, 40, 38, 37, 36, 24, 23, 11, 10, 4, 3, 2, 0, 1, 9, 8, 7, 5, 6, 22, 16, 15, 14, 12, 13, 21, 20, 19, 17, 18, 35, 29, 28, 27, 25, 26, 34, 33, 32, 30, 31, 39], [37, 36, 24, 23, 11, 10, 4, 3, 2, 0, 1, 9, 8, 7, 5, 6, 22, 16, 15, 14, 12, 13, 21, 20, 19, 17, 18, 35, 29, 28, 27, 25, 26, 34, 33, 32, 30, 31], [37, 36, 24, 23, 11, 10, 4, 3, 2, 0, 1, 9, 8, 7, 5, 6, 22, 16, 15, 14, 12, 13, 21, 20, 19, 17, 18, 35, 29, 28, 27, 25, 26, 34, 33, 32, 30, 31], [44, 37, 36, 24, 23, 11, 10, 4, 3, 2, 0, 1, 9, 8, 7, 5, 6, 22, 16, 15, 14, 12, 13, 21, 20, 19, 17, 18, 35, 29, 28, 27, 25, 26, 34, 33, 32, 30, 31, 45], [46, 44, 37, 36, 24, 23, 11, 10, 4, 3, 2, 0, 1, 9, 8, 7, 5, 6, 22, 16, 15, 14, 12, 13, 21, 20, 19, 17, 18, 35, 29, 28, 27, 25, 26, 34, 33, 32, 30, 31, 45], [47, 46, 44, 37, 36, 24, 23, 11, 10, 4, 3, 2, 0, 1, 9, 8, 7, 5, 6, 22, 16, 15, 14, 12, 13, 21, 20, 19, 17, 18, 35, 29, 28, 27, 25, 26, 34, 33, 32, 30, 31, 45], [48, 47, 46, 44, 37, 36, 24, 23, 11, 10, 4, 3, 2, 0, 1, 9, 8, 7, 5, 6, 22, 16, 15, 14, 12, 13, 21, 20, 19, 17, 18, 35, 29, 28, 27, 25, 26, 34, 33, 32, 30, 31, 45], [43, 42, 41, 40, 38, 37, 36, 24, 23, 11, 10, 4, 3, 2, 0, 1, 9, 8, 7, 5, 6, 22, 16, 15, 14, 12, 13, 21, 20, 19, 17, 18, 35, 29, 28, 27, 25, 26, 34, 33, 32, 30, 31, 39, 49, 48, 47, 46, 44, 45], [37, 36, 24, 23, 11, 10, 4, 3, 2, 0, 1, 9, 8, 7, 5, 6, 22, 16, 15, 14, 12, 13, 21, 20, 19, 17, 18, 35, 29, 28, 27, 25, 26, 34, 33, 32, 30, 31, 50, 43, 42, 41, 40, 38, 39, 49, 48, 47, 46, 44, 45]]
def ref01_Same_w27 : WC := (.dregion ref01_Same_o27_0 ref01_Same_e27)
def ref01_Same_o30_0 : List WOp := .op (POper.mk (some 4) (.move (.const (.bool false))) none) none :: []
def ref01_Same_w30 : WC := (.region ref01_Same_o30_0)
def ref01_Same_w29 : WC := (.seq ref01_Same_w30 .ret)
def ref01_Same_w28 : WC := (.cond (.tmp 67) ref01_Same_w29 .skip)
def ref01_Same_w26 : WC := (.seq ref01_Same_w27 (.ann [.mask [0, 1, 12, 13, 67], .gc] (.cut ref01_Same_w28)))
def ref01_Same_w24 : WC := (.seq ref01_Same_w25 ref01_Same_w26)
def ref01_Same_w23 : WC := (.block 1 ref01_Same_w24)
def ref01_Same_o33_0 : List WOp := .op (POper.mk (some 68) (.bin .add (.tmp 13) (.const (.int .i64 1))) none) none :: .op (POper.mk (some 13) (.move (.tmp 68)) none) none :: []
def ref01_Same_w33 : WC := (.region ref01_Same_o33_0)
def ref01_Same_w22 : WC := (.seq ref01_Same_w23 ref01_Same_w33)
def ref01_Same_w18 : WC := (.seq ref01_Same_w19 ref01_Same_w22)
def ref01_Same_w16 : WC := (.seq ref01_Same_w17 ref01_Same_w18)
def ref01_Same_w15 : WC := (.loop [.mask [0, 1, 12, 13], .gc] ref01_Same_w16)
def ref01_Same_w14 : WC := (.block 0 (.ann [.mask [0, 1, 12, 13], .gc] ref01_Same_w15))
def ref01_Same_w12 : WC := (.seq ref01_Same_w13 ref01_Same_w14)
def ref01_Same_o35_0 : List WOp := .op (POper.mk (some 4) (.move (.const (.bool true))) none) none :: []
def ref01_Same_w35 : WC := (.region ref01_Same_o35_0)
def ref01_Same_w34 : WC := (.seq ref01_Same_w35 .ret)
def ref01_Same_w11 : WC := (.seq ref01_Same_w12 ref01_Same_w34)
def ref01_Same_w3 : WC := (.seq ref01_Same_w4 ref01_Same_w11)
def ref01_Same_w1 : WC := (.seq ref01_Same_w2 ref01_Same_w3)
theorem ref01_Same_rc : resolveC Try.prog [] (Try.f13.body.getD .skip) = some (WC.er ref01_Same_w1) := by kernel_rfl
theorem ref01_Same_rr : resolveR Try.prog Try.f13.results.toList = some [(.move (.tmp 4))] := by kernel_rfl
def ref01_Same (a0 : List eR0.T) (b1 : List eR0.T) (Q : Bool → Prop) : Prop := Run Try.prog 0 (FinS Try.prog 0 Try.f13 (ref01_Same_R Q)) [.code ref01_Same_w1] [(.sl eR0 a0), (.sl eR0 b1), .und, .und, .und, .und, .und, .und, .und, .und, .und, .und, .und, .und, .und, .und, .und, .und, .und, .und, .und, .und, .und, .und, .und, .und, .und, .und, .und, .und, .und, .und, .und, .und, .und, .und, .und, .und, .und, .und, .und, .und, .und, .und, .und, .und, .und, .und, .und, .und, .und, .und, .und, .und, .und, .und, .und, .und, .und, .und, .und, .und, .und, .und, .und, .und, .und, .und, .und] []
def ref01_Same_l1 (a0 : List eR0.T) (b1 : List eR0.T) (x2 : Int) (Q : Bool → Prop) : Prop := Run Try.prog 0 (FinS Try.prog 0 Try.f13 (ref01_Same_R Q)) [.lp [.mask [0, 1, 12, 13], .gc] ref01_Same_w16, .bend 0, .code ref01_Same_w34] [(.sl eR0 a0), (.sl eR0 b1), .dead, .dead, .dead, .dead, .dead, .dead, .dead, .dead, .dead, .dead, (.int .i64 (a0.length : Int)), (.int .i64 x2), .dead, .dead, .dead, .dead, .dead, .dead, .dead, .dead, .dead, .dead, .dead, .dead, .dead, .dead, .dead, .dead, .dead, .dead, .dead, .dead, .dead, .dead, .dead, .dead, .dead, .dead, .dead, .dead, .dead, .dead, .dead, .dead, .dead, .dead, .dead, .dead, .dead, .dead, .dead, .dead, .dead, .dead, .dead, .dead, .dead, .dead, .dead, .dead, .dead, .dead, .dead, .dead, .dead, .dead, .dead] []
def ref01_Same_k2 (a0 : List eR0.T) (b1 : List eR0.T) (x2 : Int) (x3 : Bool) (Q : Bool → Prop) : Prop := Run Try.prog 0 (FinS Try.prog 0 Try.f13 (ref01_Same_R Q)) [.code ref01_Same_w28, .bend 1, .code ref01_Same_w33, .lp [.mask [0, 1, 12, 13], .gc] ref01_Same_w16, .bend 0, .code ref01_Same_w34] [(.sl eR0 a0), (.sl eR0 b1), .dead, .dead, .dead, .dead, .dead, .dead, .dead, .dead, .dead, .dead, (.int .i64 (a0.length : Int)), (.int .i64 x2), .dead, .dead, .dead, .dead, .dead, .dead, .dead, .dead, .dead, .dead, .dead, .dead, .dead, .dead, .dead, .dead, .dead, .dead, .dead, .dead, .dead, .dead, .dead, .dead, .dead, .dead, .dead, .dead, .dead, .dead, .dead, .dead, .dead, .dead, .dead, .dead, .dead, .dead, .dead, .dead, .dead, .dead, .dead, .dead, .dead, .dead, .dead, .dead, .dead, .dead, .dead, .dead, .dead, (.bool x3), .dead] []
theorem ref01_Same_step (a0 : List eR0.T) (b1 : List eR0.T) {Q : Bool → Prop} (h :
    Br ((a0.length : Int) != (b1.length : Int))
      (ref01_Same_ret Q false)
      (ref01_Same_l1 a0 b1 0 Q)) : ref01_Same a0 b1 Q :=
  adv_go 6000 mixed ref01_Same_rr (fa := [.gc]) (by kernel_rfl) h
theorem ref01_Same_l1_step (a0 : List eR0.T) (b1 : List eR0.T) (x2 : Int) {Q : Bool → Prop} (h :
    Br (decide (x2 < (a0.length : Int)))
      ((0 ≤ x2 ∧ x2.toNat < a0.length) ∧
      (0 ≤ x2 ∧ x2.toNat < b1.length) ∧
      Br (((rd eR0 a0 x2.toNat).1) != ((rd eR0 b1 x2.toNat).1))
        (ref01_Same_k2 a0 b1 x2 true Q)
        ((0 ≤ x2 ∧ x2.toNat < a0.length) ∧
        (0 ≤ x2 ∧ x2.toNat < b1.length) ∧
        Br (!(((rd eR0 a0 x2.toNat).2.1) == ((rd eR0 b1 x2.toNat).2.1)))
          (ref01_Same_k2 a0 b1 x2 true Q)
          ((0 ≤ x2 ∧ x2.toNat < a0.length) ∧
          (0 ≤ x2 ∧ x2.toNat < b1.length) ∧
          Br (((rd eR0 a0 x2.toNat).2.2.1) != ((rd eR0 b1 x2.toNat).2.2.1))
            (ref01_Same_k2 a0 b1 x2 true Q)
            ((0 ≤ x2 ∧ x2.toNat < a0.length) ∧
            (0 ≤ x2 ∧ x2.toNat < b1.length) ∧
            ref01_Same_k2 a0 b1 x2 (!(streq (bytesT ((rd eR0 a0 x2.toNat).2.2.2)) (bytesT ((rd eR0 b1 x2.toNat).2.2.2)))) Q))))
      (ref01_Same_ret Q true)) : ref01_Same_l1 a0 b1 x2 Q :=
  run_loop (adv_go 6000 mixed ref01_Same_rr (fa := [.gc]) (by kernel_rfl) h)
theorem ref01_Same_k2_step (a0 : List eR0.T) (b1 : List eR0.T) (x2 : Int) (x3 : Bool) {Q : Bool → Prop} (h :
    Br (x3)
      (ref01_Same_ret Q false)
      (ref01_Same_l1 a0 b1 (addK .i64 x2 1) Q)) : ref01_Same_k2 a0 b1 x2 x3 Q :=
  adv_go 6000 mixed ref01_Same_rr (fa := [.gc]) (by kernel_rfl) h
theorem ref01_Same_act (a0 : List eR0.T) (b1 : List eR0.T) {Q : Bool → Prop} (h : ref01_Same a0 b1 Q) : ACT Try.prog 13 [(.sl eR0 a0), (.sl eR0 b1)] [] (ref01_Same_R Q) :=
  act_go Try.func13 (by rfl) (by kernel_rfl) ref01_Same_rc (n0 := 0) rfl (by kernel_rfl) h
theorem ref01_Same_ok (a0 : List eR0.T) (b1 : List eR0.T) (r : Bool) (h : ref01_Same a0 b1 (fun x => x = r)) : ACT Try.prog 13 [(.sl eR0 a0), (.sl eR0 b1)] [] (fun tv tL => tv = ref01_Same_enc r ∧ tL = ref01_Same_obj r) := act_det (ref01_Same_act a0 b1 h)


end Go.Proofs.Ytjgkmcjdkeifdaa
