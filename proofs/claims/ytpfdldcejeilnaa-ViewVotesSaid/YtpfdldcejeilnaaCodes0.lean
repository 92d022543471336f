import Derived.Test.YtpfdldcejeilnaaProg
import Derived.Test.YtpfdldcejeilnaaFxK
set_option linter.unusedVariables false
set_option maxRecDepth 100000
namespace Go.Proofs.Ytpfdldcejeilnaa
open Go Go.Fw

theorem mixed : Try.prog.follows .mixedOrders = true := by kernel_rfl
abbrev eI64 : EL := (.one (.int .i64))
abbrev eB : EL := (.one .bool)
abbrev eS : EL := (.one .str)
abbrev eR1 : EL := (.cons .str (.cons (.int .i64) (.cons (.int .i64) (.cons (.int .i64) (.cons .bool (.one .bool))))))
abbrev eR2 : EL := (.cons (.int .i64) (.cons (.int .i64) (.cons (.int .i64) (.cons .str (.cons (.sl eR1) (.cons (.int .i64) (.cons (.int .i64) (.cons (.int .i64) (.cons .bool (.one .bool))))))))))
abbrev eR0 : EL := (.cons (.int .i64) (.cons (.int .i64) (.cons (.int .i64) (.cons (.int .i64) (.cons (.int .i64) (.cons (.int .i64) (.cons (.int .i64) (.cons (.int .i64) (.cons (.int .i64) (.cons .bool (.cons .bool (.cons .bool (.cons (.int .i64) (.cons (.int .i64) (.cons (.int .i64) (.cons .str (.cons (.sl eR1) (.cons (.int .i64) (.cons (.int .i64) (.cons (.int .i64) (.cons .bool (.cons .bool (.cons (.int .i64) (.cons (.int .i64) (.cons (.int .i64) (.cons (.int .i64) (.cons (.int .i64) (.cons (.int .i64) (.cons (.int .i64) (.cons (.int .i64) (.cons (.int .i64) (.cons .bool (.cons (.sl eR2) (.one (.sl eI64)))))))))))))))))))))))))))))))))))
abbrev eR3 : EL := (.cons (.int .i64) (.one (.int .u64)))
abbrev eR4 : EL := (.cons (.int .i64) (.one (.sl eI64)))

/-! drover/view.nodes -/
def view_nodes_enc  : Bool → TV := fun r => (.bool r)
def view_nodes_obj  : Bool → List TO := fun r => []
def view_nodes_R  (Q : Bool → Prop) : TV → List TO → Prop := RetR (view_nodes_enc) (view_nodes_obj) Q
def view_nodes_ret  (Q : Bool → Prop) (r : Bool) : Prop := view_nodes_R Q (view_nodes_enc r) (view_nodes_obj r)
theorem view_nodes_ret.intro  {Q : Bool → Prop} {r : Bool} (h : Q r) : view_nodes_ret Q r := RetR.intro h
def view_nodes_o2_0 : List WOp := .op (POper.mk (some 2) (.move (.const (.bool false))) none) none :: []
def view_nodes_w2 : WC := (.region view_nodes_o2_0)
def view_nodes_o4_0 : List WOp := .op (POper.mk (some 3) (.move (.tmp 0)) none) none :: .op (POper.mk (some 4) (.bin .geq (.tmp 3) (.const (.int .i64 2))) none) none :: .op (POper.mk (some 5) (.move (.tmp 4)) none) none :: .op (POper.mk (some 6) (.move (.tmp 0)) (some (5, true))) none :: .op (POper.mk (some 7) (.bin .leq (.tmp 6) (.const (.int .i64 5))) (some (5, true))) none :: .op (POper.mk (some 8) (.pick (.tmp 5) (.tmp 7) (.const (.bool false))) none) none :: .op (POper.mk (some 2) (.move (.tmp 8)) none) none :: []
def view_nodes_w4 : WC := (.region view_nodes_o4_0)
def view_nodes_w3 : WC := (.seq view_nodes_w4 .ret)
def view_nodes_w1 : WC := (.seq view_nodes_w2 view_nodes_w3)
theorem view_nodes_rc : resolveC Try.prog [] (Try.f33.body.getD .skip) = some (WC.er view_nodes_w1) := by kernel_rfl
theorem view_nodes_rr : resolveR Try.prog Try.f33.results.toList = some [(.move (.tmp 2))] := by kernel_rfl
def view_nodes (n0 : Int) (Q : Bool → Prop) : Prop := Run Try.prog 0 (FinS Try.prog 0 Try.f33 (view_nodes_R Q)) [.code view_nodes_w1] [(.int .i64 n0), .und, .und, .und, .und, .und, .und, .und, .und] []
theorem view_nodes_step (n0 : Int) {Q : Bool → Prop} (h :
    Br (decide (n0 ≥ 2))
      (view_nodes_ret Q (decide (n0 ≤ 5)))
      (view_nodes_ret Q false)) : view_nodes n0 Q :=
  adv_go 6000 mixed view_nodes_rr (fa := [.gc]) (by kernel_rfl) h
theorem view_nodes_act (n0 : Int) {Q : Bool → Prop} (h : view_nodes n0 Q) : ACT Try.prog 33 [(.int .i64 n0)] [] (view_nodes_R Q) :=
  act_go Try.func33 (by rfl) (by kernel_rfl) view_nodes_rc (n0 := 0) rfl (by kernel_rfl) h
theorem view_nodes_ok (n0 : Int) (r : Bool) (h : view_nodes n0 (fun x => x = r)) : ACT Try.prog 33 [(.int .i64 n0)] [] (fun tv tL => tv = view_nodes_enc r ∧ tL = view_nodes_obj r) := act_det (view_nodes_act n0 h)

/-! drover/view.Leader -/
def view_Leader_enc  : Int → TV := fun r => (.int .i64 r)
def view_Leader_obj  : Int → List TO := fun r => []
def view_Leader_R  (Q : Int → Prop) : TV → List TO → Prop := RetR (view_Leader_enc) (view_Leader_obj) Q
def view_Leader_ret  (Q : Int → Prop) (r : Int) : Prop := view_Leader_R Q (view_Leader_enc r) (view_Leader_obj r)
theorem view_Leader_ret.intro  {Q : Int → Prop} {r : Int} (h : Q r) : view_Leader_ret Q r := RetR.intro h
def view_Leader_o2_0 : List WOp := .op (POper.mk (some 4) (.move (.const (.int .i64 0))) none) none :: []
def view_Leader_w2 : WC := (.region view_Leader_o2_0)
def view_Leader_o5_5 : List WOp := .op (POper.mk (some 10) (.un .not (.tmp 9)) (some (7, false))) none :: .op (POper.mk (some 11) (.pick (.tmp 7) (.const (.bool true)) (.tmp 10)) none) none :: []
def view_Leader_o5_0 : List WOp := .op (POper.mk (some 5) (.move (.tmp 0)) none) none :: .op (POper.mk (some 6) (.bin .lss (.tmp 5) (.const (.int .i64 0))) none) none :: .op (POper.mk (some 7) (.move (.tmp 6)) none) none :: .op (POper.mk (some 8) (.move (.tmp 1)) (some (7, false))) none :: .ann [.mask [0, 1, 7, 8], .gc] :: .op (POper.mk (some 9) (.callf 33 [(.tmp 8)]) (some (7, false))) none :: view_Leader_o5_5
def view_Leader_w5 : WC := (.region view_Leader_o5_0)
def view_Leader_o8_0 : List WOp := .op (POper.mk (some 4) (.move (.const (.int .i64 0))) none) none :: []
def view_Leader_w8 : WC := (.region view_Leader_o8_0)
def view_Leader_w7 : WC := (.seq view_Leader_w8 .ret)
def view_Leader_w6 : WC := (.cond (.tmp 11) view_Leader_w7 .skip)
def view_Leader_w4 : WC := (.seq view_Leader_w5 (.ann [.mask [0, 1, 11], .gc] (.cut view_Leader_w6)))
def view_Leader_o12_0 : List WOp := .op (POper.mk (some 12) (.move (.tmp 0)) none) none :: .op (POper.mk (some 13) (.move (.tmp 1)) none) none :: .op (POper.mk (some 14) (.bin .rem (.tmp 12) (.tmp 13)) none) none :: .op (POper.mk (some 15) (.bin .add (.const (.int .i64 1)) (.tmp 14)) none) none :: .op (POper.mk (some 4) (.move (.tmp 15)) none) none :: []
def view_Leader_w12 : WC := (.region view_Leader_o12_0)
def view_Leader_w11 : WC := (.seq view_Leader_w12 .ret)
def view_Leader_w3 : WC := (.seq view_Leader_w4 (.ann [.mask [0, 1], .gc] (.cut view_Leader_w11)))
def view_Leader_w1 : WC := (.seq view_Leader_w2 view_Leader_w3)
theorem view_Leader_rc : resolveC Try.prog [] (Try.f9.body.getD .skip) = some (WC.er view_Leader_w1) := by kernel_rfl
theorem view_Leader_rr : resolveR Try.prog Try.f9.results.toList = some [(.move (.tmp 4))] := by kernel_rfl
def view_Leader (view0 : Int) (n1 : Int) (Q : Int → Prop) : Prop := Run Try.prog 0 (FinS Try.prog 0 Try.f9 (view_Leader_R Q)) [.code view_Leader_w1] [(.int .i64 view0), (.int .i64 n1), .und, .und, .und, .und, .und, .und, .und, .und, .und, .und, .und, .und, .und, .und] []
def view_Leader_k1 (view0 : Int) (n1 : Int) (x2 : Bool) (Q : Int → Prop) : Prop := Run Try.prog 0 (FinS Try.prog 0 Try.f9 (view_Leader_R Q)) [.code view_Leader_w6, .code (.ann [.mask [0, 1], .gc] (.cut view_Leader_w11))] [(.int .i64 view0), (.int .i64 n1), .dead, .dead, .dead, .dead, .dead, .dead, .dead, .dead, .dead, (.bool x2), .dead, .dead, .dead, .dead] []
def view_Leader_k2 (view0 : Int) (n1 : Int) (Q : Int → Prop) : Prop := Run Try.prog 0 (FinS Try.prog 0 Try.f9 (view_Leader_R Q)) [.code view_Leader_w11] [(.int .i64 view0), (.int .i64 n1), .dead, .dead, .dead, .dead, .dead, .dead, .dead, .dead, .dead, .dead, .dead, .dead, .dead, .dead] []
def view_Leader_c1 (view0 : Int) (n1 : Int) (Q : Int → Prop) : Prop := Run Try.prog 0 (FinS Try.prog 0 Try.f9 (view_Leader_R Q)) [.ops (.op (POper.mk (some 9) (.callf 33 [(.tmp 8)]) none) none :: view_Leader_o5_5), .code (.ann [.mask [0, 1, 11], .gc] (.cut view_Leader_w6)), .code (.ann [.mask [0, 1], .gc] (.cut view_Leader_w11))] [(.int .i64 view0), (.int .i64 n1), .dead, .dead, .dead, .dead, .dead, (.bool false), (.int .i64 n1), .dead, .dead, .dead, .dead, .dead, .dead, .dead] []
theorem view_Leader_step (view0 : Int) (n1 : Int) {Q : Int → Prop} (h :
    Br (decide (view0 < 0))
      (view_Leader_k1 view0 n1 true Q)
      (view_Leader_c1 view0 n1 Q)) : view_Leader view0 n1 Q :=
  adv_go 6000 mixed view_Leader_rr (fa := [.gc]) (by kernel_rfl) h
theorem view_Leader_k1_step (view0 : Int) (n1 : Int) (x2 : Bool) {Q : Int → Prop} (h :
    Br (x2)
      (view_Leader_ret Q 0)
      (view_Leader_k2 view0 n1 Q)) : view_Leader_k1 view0 n1 x2 Q :=
  adv_go 6000 mixed view_Leader_rr (fa := [.gc]) (by kernel_rfl) h
theorem view_Leader_k2_step (view0 : Int) (n1 : Int) {Q : Int → Prop} (h :
    (n1 ≠ 0) ∧
    view_Leader_ret Q (addK .i64 1 (remK view0 n1))) : view_Leader_k2 view0 n1 Q :=
  adv_go 6000 mixed view_Leader_rr (fa := [.gc]) (by kernel_rfl) h
theorem view_Leader_c1_step (view0 : Int) (n1 : Int) {Q : Int → Prop} (r3 : Bool) (hc : view_nodes n1 (fun x => x = r3)) (h :
    view_Leader_k1 view0 n1 (!r3) Q) : view_Leader_c1 view0 n1 Q :=
  run_callf (tout := (lendOut [] 0 (view_nodes_enc r3) (view_nodes_obj r3))) (call_typed [] (view_nodes_ok n1 r3 hc) (by kernel_rfl) (by kernel_rfl) (by kernel_rfl)) (adv_go 6000 mixed view_Leader_rr (fa := [.gc]) (by kernel_rfl) h)
theorem view_Leader_act (view0 : Int) (n1 : Int) {Q : Int → Prop} (h : view_Leader view0 n1 Q) : ACT Try.prog 9 [(.int .i64 view0), (.int .i64 n1)] [] (view_Leader_R Q) :=
  act_go Try.func9 (by rfl) (by kernel_rfl) view_Leader_rc (n0 := 0) rfl (by kernel_rfl) h
theorem view_Leader_ok (view0 : Int) (n1 : Int) (r : Int) (h : view_Leader view0 n1 (fun x => x = r)) : ACT Try.prog 9 [(.int .i64 view0), (.int .i64 n1)] [] (fun tv tL => tv = view_Leader_enc r ∧ tL = view_Leader_obj r) := act_det (view_Leader_act view0 n1 h)

/-! drover/view.Quorum -/
def view_Quorum_enc  : Int → TV := fun r => (.int .i64 r)
def view_Quorum_obj  : Int → List TO := fun r => []
def view_Quorum_R  (Q : Int → Prop) : TV → List TO → Prop := RetR (view_Quorum_enc) (view_Quorum_obj) Q
def view_Quorum_ret  (Q : Int → Prop) (r : Int) : Prop := view_Quorum_R Q (view_Quorum_enc r) (view_Quorum_obj r)
theorem view_Quorum_ret.intro  {Q : Int → Prop} {r : Int} (h : Q r) : view_Quorum_ret Q r := RetR.intro h
def view_Quorum_o2_0 : List WOp := .op (POper.mk (some 2) (.move (.const (.int .i64 0))) none) none :: []
def view_Quorum_w2 : WC := (.region view_Quorum_o2_0)
def view_Quorum_o5_2 : List WOp := .op (POper.mk (some 5) (.un .not (.tmp 4)) none) none :: []
def view_Quorum_o5_0 : List WOp := .op (POper.mk (some 3) (.move (.tmp 0)) none) none :: .ann [.mask [0, 3], .gc] :: .op (POper.mk (some 4) (.callf 33 [(.tmp 3)]) none) none :: view_Quorum_o5_2
def view_Quorum_w5 : WC := (.region view_Quorum_o5_0)
def view_Quorum_o8_0 : List WOp := .op (POper.mk (some 2) (.move (.const (.int .i64 0))) none) none :: []
def view_Quorum_w8 : WC := (.region view_Quorum_o8_0)
def view_Quorum_w7 : WC := (.seq view_Quorum_w8 .ret)
def view_Quorum_w6 : WC := (.cond (.tmp 5) view_Quorum_w7 .skip)
def view_Quorum_w4 : WC := (.seq view_Quorum_w5 view_Quorum_w6)
def view_Quorum_o12_0 : List WOp := .op (POper.mk (some 6) (.move (.tmp 0)) none) none :: .op (POper.mk (some 7) (.bin .quo (.tmp 6) (.const (.int .i64 2))) none) none :: .op (POper.mk (some 8) (.bin .add (.tmp 7) (.const (.int .i64 1))) none) none :: .op (POper.mk (some 2) (.move (.tmp 8)) none) none :: []
def view_Quorum_w12 : WC := (.region view_Quorum_o12_0)
def view_Quorum_w11 : WC := (.seq view_Quorum_w12 .ret)
def view_Quorum_w3 : WC := (.seq view_Quorum_w4 view_Quorum_w11)
def view_Quorum_w1 : WC := (.seq view_Quorum_w2 view_Quorum_w3)
theorem view_Quorum_rc : resolveC Try.prog [] (Try.f11.body.getD .skip) = some (WC.er view_Quorum_w1) := by kernel_rfl
theorem view_Quorum_rr : resolveR Try.prog Try.f11.results.toList = some [(.move (.tmp 2))] := by kernel_rfl
def view_Quorum (n0 : Int) (Q : Int → Prop) : Prop := Run Try.prog 0 (FinS Try.prog 0 Try.f11 (view_Quorum_R Q)) [.code view_Quorum_w1] [(.int .i64 n0), .und, .und, .und, .und, .und, .und, .und, .und] []
def view_Quorum_c1 (n0 : Int) (Q : Int → Prop) : Prop := Run Try.prog 0 (FinS Try.prog 0 Try.f11 (view_Quorum_R Q)) [.ops (.op (POper.mk (some 4) (.callf 33 [(.tmp 3)]) none) none :: view_Quorum_o5_2), .code view_Quorum_w6, .code view_Quorum_w11] [(.int .i64 n0), .dead, .dead, (.int .i64 n0), .dead, .dead, .dead, .dead, .dead] []
theorem view_Quorum_step (n0 : Int) {Q : Int → Prop} (h :
    view_Quorum_c1 n0 Q) : view_Quorum n0 Q :=
  adv_go 6000 mixed view_Quorum_rr (fa := [.gc]) (by kernel_rfl) h
theorem view_Quorum_c1_step (n0 : Int) {Q : Int → Prop} (r1 : Bool) (hc : view_nodes n0 (fun x => x = r1)) (h :
    Br (!r1)
      (view_Quorum_ret Q 0)
      (((2 : Int) ≠ 0) ∧
      view_Quorum_ret Q (addK .i64 (quoK .i64 n0 2) 1))) : view_Quorum_c1 n0 Q :=
  run_callf (tout := (lendOut [] 0 (view_nodes_enc r1) (view_nodes_obj r1))) (call_typed [] (view_nodes_ok n0 r1 hc) (by kernel_rfl) (by kernel_rfl) (by kernel_rfl)) (adv_go 6000 mixed view_Quorum_rr (fa := [.gc]) (by kernel_rfl) h)
theorem view_Quorum_act (n0 : Int) {Q : Int → Prop} (h : view_Quorum n0 Q) : ACT Try.prog 11 [(.int .i64 n0)] [] (view_Quorum_R Q) :=
  act_go Try.func11 (by rfl) (by kernel_rfl) view_Quorum_rc (n0 := 0) rfl (by kernel_rfl) h
theorem view_Quorum_ok (n0 : Int) (r : Int) (h : view_Quorum n0 (fun x => x = r)) : ACT Try.prog 11 [(.int .i64 n0)] [] (fun tv tL => tv = view_Quorum_enc r ∧ tL = view_Quorum_obj r) := act_det (view_Quorum_act n0 h)

/-! drover/view.Faults -/
def view_Faults_enc  : Int → TV := fun r => (.int .i64 r)
def view_Faults_obj  : Int → List TO := fun r => []
def view_Faults_R  (Q : Int → Prop) : TV → List TO → Prop := RetR (view_Faults_enc) (view_Faults_obj) Q
def view_Faults_ret  (Q : Int → Prop) (r : Int) : Prop := view_Faults_R Q (view_Faults_enc r) (view_Faults_obj r)
theorem view_Faults_ret.intro  {Q : Int → Prop} {r : Int} (h : Q r) : view_Faults_ret Q r := RetR.intro h
def view_Faults_o2_0 : List WOp := .op (POper.mk (some 2) (.move (.const (.int .i64 0))) none) none :: []
def view_Faults_w2 : WC := (.region view_Faults_o2_0)
def view_Faults_o5_2 : List WOp := .op (POper.mk (some 5) (.un .not (.tmp 4)) none) none :: []
def view_Faults_o5_0 : List WOp := .op (POper.mk (some 3) (.move (.tmp 0)) none) none :: .ann [.mask [0, 3], .gc] :: .op (POper.mk (some 4) (.callf 33 [(.tmp 3)]) none) none :: view_Faults_o5_2
def view_Faults_w5 : WC := (.region view_Faults_o5_0)
def view_Faults_o8_0 : List WOp := .op (POper.mk (some 2) (.move (.const (.int .i64 0))) none) none :: []
def view_Faults_w8 : WC := (.region view_Faults_o8_0)
def view_Faults_w7 : WC := (.seq view_Faults_w8 .ret)
def view_Faults_w6 : WC := (.cond (.tmp 5) view_Faults_w7 .skip)
def view_Faults_w4 : WC := (.seq view_Faults_w5 view_Faults_w6)
def view_Faults_o12_0 : List WOp := .op (POper.mk (some 6) (.move (.tmp 0)) none) none :: .op (POper.mk (some 7) (.bin .sub (.tmp 6) (.const (.int .i64 1))) none) none :: .op (POper.mk (some 8) (.bin .quo (.tmp 7) (.const (.int .i64 2))) none) none :: .op (POper.mk (some 2) (.move (.tmp 8)) none) none :: []
def view_Faults_w12 : WC := (.region view_Faults_o12_0)
def view_Faults_w11 : WC := (.seq view_Faults_w12 .ret)
def view_Faults_w3 : WC := (.seq view_Faults_w4 view_Faults_w11)
def view_Faults_w1 : WC := (.seq view_Faults_w2 view_Faults_w3)
theorem view_Faults_rc : resolveC Try.prog [] (Try.f13.body.getD .skip) = some (WC.er view_Faults_w1) := by kernel_rfl
theorem view_Faults_rr : resolveR Try.prog Try.f13.results.toList = some [(.move (.tmp 2))] := by kernel_rfl
def view_Faults (n0 : Int) (Q : Int → Prop) : Prop := Run Try.prog 0 (FinS Try.prog 0 Try.f13 (view_Faults_R Q)) [.code view_Faults_w1] [(.int .i64 n0), .und, .und, .und, .und, .und, .und, .und, .und] []
def view_Faults_c1 (n0 : Int) (Q : Int → Prop) : Prop := Run Try.prog 0 (FinS Try.prog 0 Try.f13 (view_Faults_R Q)) [.ops (.op (POper.mk (some 4) (.callf 33 [(.tmp 3)]) none) none :: view_Faults_o5_2), .code view_Faults_w6, .code view_Faults_w11] [(.int .i64 n0), .dead, .dead, (.int .i64 n0), .dead, .dead, .dead, .dead, .dead] []
theorem view_Faults_step (n0 : Int) {Q : Int → Prop} (h :
    view_Faults_c1 n0 Q) : view_Faults n0 Q :=
  adv_go 6000 mixed view_Faults_rr (fa := [.gc]) (by kernel_rfl) h
theorem view_Faults_c1_step (n0 : Int) {Q : Int → Prop} (r1 : Bool) (hc : view_nodes n0 (fun x => x = r1)) (h :
    Br (!r1)
      (view_Faults_ret Q 0)
      (((2 : Int) ≠ 0) ∧
      view_Faults_ret Q (quoK .i64 (subK .i64 n0 1) 2))) : view_Faults_c1 n0 Q :=
  run_callf (tout := (lendOut [] 0 (view_nodes_enc r1) (view_nodes_obj r1))) (call_typed [] (view_nodes_ok n0 r1 hc) (by kernel_rfl) (by kernel_rfl) (by kernel_rfl)) (adv_go 6000 mixed view_Faults_rr (fa := [.gc]) (by kernel_rfl) h)
theorem view_Faults_act (n0 : Int) {Q : Int → Prop} (h : view_Faults n0 Q) : ACT Try.prog 13 [(.int .i64 n0)] [] (view_Faults_R Q) :=
  act_go Try.func13 (by rfl) (by kernel_rfl) view_Faults_rc (n0 := 0) rfl (by kernel_rfl) h
theorem view_Faults_ok (n0 : Int) (r : Int) (h : view_Faults n0 (fun x => x = r)) : ACT Try.prog 13 [(.int .i64 n0)] [] (fun tv tL => tv = view_Faults_enc r ∧ tL = view_Faults_obj r) := act_det (view_Faults_act n0 h)

/-! drover/view.Next -/
def view_Next_enc  : Int → TV := fun r => (.int .i64 r)
def view_Next_obj  : Int → List TO := fun r => []
def view_Next_R  (Q : Int → Prop) : TV → List TO → Prop := RetR (view_Next_enc) (view_Next_obj) Q
def view_Next_ret  (Q : Int → Prop) (r : Int) : Prop := view_Next_R Q (view_Next_enc r) (view_Next_obj r)
theorem view_Next_ret.intro  {Q : Int → Prop} {r : Int} (h : Q r) : view_Next_ret Q r := RetR.intro h
def view_Next_o2_0 : List WOp := .op (POper.mk (some 6) (.move (.const (.int .i64 0))) none) none :: []
def view_Next_w2 : WC := (.region view_Next_o2_0)
def view_Next_o5_9 : List WOp := .op (POper.mk (some 16) (.un .not (.tmp 15)) (some (13, false))) none :: .op (POper.mk (some 17) (.pick (.tmp 13) (.const (.bool true)) (.tmp 16)) none) none :: .op (POper.mk (some 18) (.move (.tmp 17)) none) none :: .op (POper.mk (some 19) (.move (.tmp 1)) (some (18, false))) none :: .op (POper.mk (some 20) (.bin .lss (.tmp 19) (.const (.int .i64 1))) (some (18, false))) none :: .op (POper.mk (some 21) (.pick (.tmp 18) (.const (.bool true)) (.tmp 20)) none) none :: .op (POper.mk (some 22) (.move (.tmp 21)) none) none :: .op (POper.mk (some 23) (.move (.tmp 1)) (some (22, false))) none :: .op (POper.mk (some 24) (.move (.tmp 2)) (some (22, false))) none :: .op (POper.mk (some 25) (.bin .gtr (.tmp 23) (.tmp 24)) (some (22, false))) none :: .op (POper.mk (some 26) (.pick (.tmp 22) (.const (.bool true)) (.tmp 25)) none) none :: []
def view_Next_o5_0 : List WOp := .op (POper.mk (some 7) (.move (.tmp 0)) none) none :: .op (POper.mk (some 8) (.bin .lss (.tmp 7) (.const (.int .i64 0))) none) none :: .op (POper.mk (some 9) (.move (.tmp 8)) none) none :: .op (POper.mk (some 10) (.move (.tmp 0)) (some (9, false))) none :: .op (POper.mk (some 11) (.bin .gtr (.tmp 10) (.const (.int .i64 1099511627776))) (some (9, false))) none :: .op (POper.mk (some 12) (.pick (.tmp 9) (.const (.bool true)) (.tmp 11)) none) none :: .op (POper.mk (some 13) (.move (.tmp 12)) none) none :: .op (POper.mk (some 14) (.move (.tmp 2)) (some (13, false))) none :: .ann [.mask [0, 1, 2, 13, 14], .gc] :: .op (POper.mk (some 15) (.callf 33 [(.tmp 14)]) (some (13, false))) none :: view_Next_o5_9
def view_Next_w5 : WC := (.region view_Next_o5_0)
def view_Next_o8_0 : List WOp := .op (POper.mk (some 6) (.move (.const (.int .i64 (-1)))) none) none :: []
def view_Next_w8 : WC := (.region view_Next_o8_0)
def view_Next_w7 : WC := (.seq view_Next_w8 .ret)
def view_Next_w6 : WC := (.cond (.tmp 26) view_Next_w7 .skip)
def view_Next_w4 : WC := (.seq view_Next_w5 (.ann [.mask [0, 1, 2, 26], .gc] (.cut view_Next_w6)))
def view_Next_o12_7 : List WOp := .op (POper.mk (some 34) (.bin .sub (.tmp 29) (.tmp 33)) none) none :: .op (POper.mk (some 35) (.move (.tmp 2)) none) none :: .op (POper.mk (some 36) (.bin .add (.tmp 34) (.tmp 35)) none) none :: .op (POper.mk (some 37) (.move (.tmp 2)) none) none :: .op (POper.mk (some 38) (.bin .rem (.tmp 36) (.tmp 37)) none) none :: .op (POper.mk (some 39) (.bin .add (.tmp 28) (.tmp 38)) none) none :: .op (POper.mk (some 6) (.move (.tmp 39)) none) none :: []
def view_Next_o12_0 : List WOp := .op (POper.mk (some 27) (.move (.tmp 0)) none) none :: .op (POper.mk (some 28) (.bin .add (.tmp 27) (.const (.int .i64 1))) none) none :: .op (POper.mk (some 29) (.move (.tmp 1)) none) none :: .op (POper.mk (some 30) (.move (.tmp 0)) none) none :: .op (POper.mk (some 31) (.bin .add (.tmp 30) (.const (.int .i64 1))) none) none :: .op (POper.mk (some 32) (.move (.tmp 2)) none) none :: .ann [.mask [2, 28, 29, 31, 32], .gc] :: .op (POper.mk (some 33) (.callf 9 [(.tmp 31), (.tmp 32)]) none) none :: view_Next_o12_7
def view_Next_w12 : WC := (.region view_Next_o12_0)
def view_Next_w11 : WC := (.seq view_Next_w12 .ret)
def view_Next_w3 : WC := (.seq view_Next_w4 (.ann [.mask [0, 1, 2], .gc] (.cut view_Next_w11)))
def view_Next_w1 : WC := (.seq view_Next_w2 view_Next_w3)
theorem view_Next_rc : resolveC Try.prog [] (Try.f15.body.getD .skip) = some (WC.er view_Next_w1) := by kernel_rfl
theorem view_Next_rr : resolveR Try.prog Try.f15.results.toList = some [(.move (.tmp 6))] := by kernel_rfl
def view_Next (view0 : Int) (node1 : Int) (n2 : Int) (Q : Int → Prop) : Prop := Run Try.prog 0 (FinS Try.prog 0 Try.f15 (view_Next_R Q)) [.code view_Next_w1] [(.int .i64 view0), (.int .i64 node1), (.int .i64 n2), .und, .und, .und, .und, .und, .und, .und, .und, .und, .und, .und, .und, .und, .und, .und, .und, .und, .und, .und, .und, .und, .und, .und, .und, .und, .und, .und, .und, .und, .und, .und, .und, .und, .und, .und, .und, .und] []
def view_Next_k1 (view0 : Int) (node1 : Int) (n2 : Int) (x3 : Bool) (Q : Int → Prop) : Prop := Run Try.prog 0 (FinS Try.prog 0 Try.f15 (view_Next_R Q)) [.code view_Next_w6, .code (.ann [.mask [0, 1, 2], .gc] (.cut view_Next_w11))] [(.int .i64 view0), (.int .i64 node1), (.int .i64 n2), .dead, .dead, .dead, .dead, .dead, .dead, .dead, .dead, .dead, .dead, .dead, .dead, .dead, .dead, .dead, .dead, .dead, .dead, .dead, .dead, .dead, .dead, .dead, (.bool x3), .dead, .dead, .dead, .dead, .dead, .dead, .dead, .dead, .dead, .dead, .dead, .dead, .dead] []
def view_Next_k2 (view0 : Int) (node1 : Int) (n2 : Int) (Q : Int → Prop) : Prop := Run Try.prog 0 (FinS Try.prog 0 Try.f15 (view_Next_R Q)) [.code view_Next_w11] [(.int .i64 view0), (.int .i64 node1), (.int .i64 n2), .dead, .dead, .dead, .dead, .dead, .dead, .dead, .dead, .dead, .dead, .dead, .dead, .dead, .dead, .dead, .dead, .dead, .dead, .dead, .dead, .dead, .dead, .dead, .dead, .dead, .dead, .dead, .dead, .dead, .dead, .dead, .dead, .dead, .dead, .dead, .dead, .dead] []
def view_Next_c1 (n2 : Int) (view0 : Int) (node1 : Int) (Q : Int → Prop) : Prop := Run Try.prog 0 (FinS Try.prog 0 Try.f15 (view_Next_R Q)) [.ops (.op (POper.mk (some 33) (.callf 9 [(.tmp 31), (.tmp 32)]) none) none :: view_Next_o12_7), .code .ret] [.dead, .dead, (.int .i64 n2), .dead, .dead, .dead, .dead, .dead, .dead, .dead, .dead, .dead, .dead, .dead, .dead, .dead, .dead, .dead, .dead, .dead, .dead, .dead, .dead, .dead, .dead, .dead, .dead, .dead, (.int .i64 (addK .i64 view0 1)), (.int .i64 node1), .dead, (.int .i64 (addK .i64 view0 1)), (.int .i64 n2), .dead, .dead, .dead, .dead, .dead, .dead, .dead] []
def view_Next_c2 (view0 : Int) (node1 : Int) (n2 : Int) (Q : Int → Prop) : Prop := Run Try.prog 0 (FinS Try.prog 0 Try.f15 (view_Next_R Q)) [.ops (.op (POper.mk (some 15) (.callf 33 [(.tmp 14)]) none) none :: view_Next_o5_9), .code (.ann [.mask [0, 1, 2, 26], .gc] (.cut view_Next_w6)), .code (.ann [.mask [0, 1, 2], .gc] (.cut view_Next_w11))] [(.int .i64 view0), (.int .i64 node1), (.int .i64 n2), .dead, .dead, .dead, .dead, .dead, .dead, .dead, .dead, .dead, .dead, (.bool false), (.int .i64 n2), .dead, .dead, .dead, .dead, .dead, .dead, .dead, .dead, .dead, .dead, .dead, .dead, .dead, .dead, .dead, .dead, .dead, .dead, .dead, .dead, .dead, .dead, .dead, .dead, .dead] []
theorem view_Next_step (view0 : Int) (node1 : Int) (n2 : Int) {Q : Int → Prop} (h :
    Br (decide (view0 < 0))
      (view_Next_k1 view0 node1 n2 true Q)
      (Br (decide (view0 > 1099511627776))
        (view_Next_k1 view0 node1 n2 true Q)
        (view_Next_c2 view0 node1 n2 Q))) : view_Next view0 node1 n2 Q :=
  adv_go 6000 mixed view_Next_rr (fa := [.gc]) (by kernel_rfl) h
theorem view_Next_k1_step (view0 : Int) (node1 : Int) (n2 : Int) (x3 : Bool) {Q : Int → Prop} (h :
    Br (x3)
      (view_Next_ret Q (-1))
      (view_Next_k2 view0 node1 n2 Q)) : view_Next_k1 view0 node1 n2 x3 Q :=
  adv_go 6000 mixed view_Next_rr (fa := [.gc]) (by kernel_rfl) h
theorem view_Next_k2_step (view0 : Int) (node1 : Int) (n2 : Int) {Q : Int → Prop} (h :
    view_Next_c1 n2 view0 node1 Q) : view_Next_k2 view0 node1 n2 Q :=
  adv_go 6000 mixed view_Next_rr (fa := [.gc]) (by kernel_rfl) h
theorem view_Next_c1_step (n2 : Int) (view0 : Int) (node1 : Int) {Q : Int → Prop} (r4 : Int) (hc : view_Leader (addK .i64 view0 1) n2 (fun x => x = r4)) (h :
    (n2 ≠ 0) ∧
    view_Next_ret Q (addK .i64 (addK .i64 view0 1) (remK (addK .i64 (subK .i64 node1 r4) n2) n2))) : view_Next_c1 n2 view0 node1 Q :=
  run_callf (tout := (lendOut [] 0 (view_Leader_enc r4) (view_Leader_obj r4))) (call_typed [] (view_Leader_ok (addK .i64 view0 1) n2 r4 hc) (by kernel_rfl) (by kernel_rfl) (by kernel_rfl)) (adv_go 6000 mixed view_Next_rr (fa := [.gc]) (by kernel_rfl) h)
theorem view_Next_c2_step (view0 : Int) (node1 : Int) (n2 : Int) {Q : Int → Prop} (r5 : Bool) (hc : view_nodes n2 (fun x => x = r5)) (h :
    Br (!r5)
      (view_Next_k1 view0 node1 n2 true Q)
      (Br (decide (node1 < 1))
        (view_Next_k1 view0 node1 n2 true Q)
        (view_Next_k1 view0 node1 n2 (decide (node1 > n2)) Q))) : view_Next_c2 view0 node1 n2 Q :=
  run_callf (tout := (lendOut [] 0 (view_nodes_enc r5) (view_nodes_obj r5))) (call_typed [] (view_nodes_ok n2 r5 hc) (by kernel_rfl) (by kernel_rfl) (by kernel_rfl)) (adv_go 6000 mixed view_Next_rr (fa := [.gc]) (by kernel_rfl) h)
theorem view_Next_act (view0 : Int) (node1 : Int) (n2 : Int) {Q : Int → Prop} (h : view_Next view0 node1 n2 Q) : ACT Try.prog 15 [(.int .i64 view0), (.int .i64 node1), (.int .i64 n2)] [] (view_Next_R Q) :=
  act_go Try.func15 (by rfl) (by kernel_rfl) view_Next_rc (n0 := 0) rfl (by kernel_rfl) h
theorem view_Next_ok (view0 : Int) (node1 : Int) (n2 : Int) (r : Int) (h : view_Next view0 node1 n2 (fun x => x = r)) : ACT Try.prog 15 [(.int .i64 view0), (.int .i64 node1), (.int .i64 n2)] [] (fun tv tL => tv = view_Next_enc r ∧ tL = view_Next_obj r) := act_det (view_Next_act view0 node1 n2 h)

/-! drover/droverlaw08.lives -/
def law08_lives_enc  : Bool → TV := fun r => (.bool r)
def law08_lives_obj  : Bool → List TO := fun r => []
def law08_lives_R  (Q : Bool → Prop) : TV → List TO → Prop := RetR (law08_lives_enc) (law08_lives_obj) Q
def law08_lives_ret  (Q : Bool → Prop) (r : Bool) : Prop := law08_lives_R Q (law08_lives_enc r) (law08_lives_obj r)
theorem law08_lives_ret.intro  {Q : Bool → Prop} {r : Bool} (h : Q r) : law08_lives_ret Q r := RetR.intro h
def law08_lives_o2_0 : List WOp := .op (POper.mk (some 0) (.move (.const (.bool false))) none) none :: []
def law08_lives_w2 : WC := (.region law08_lives_o2_0)
def law08_lives_o4_12 : List WOp := .op (POper.mk (some 13) (.bin .eql (.tmp 12) (.const (.int .i64 6))) (some (11, true))) none :: .op (POper.mk (some 14) (.pick (.tmp 11) (.tmp 13) (.const (.bool false))) none) none :: .op (POper.mk (some 0) (.move (.tmp 14)) none) none :: []
def law08_lives_o4_8 : List WOp := .op (POper.mk (some 9) (.bin .eql (.tmp 8) (.const (.int .i64 1))) (some (7, true))) none :: .op (POper.mk (some 10) (.pick (.tmp 7) (.tmp 9) (.const (.bool false))) none) none :: .op (POper.mk (some 11) (.move (.tmp 10)) none) none :: .ann [.mask [11], .gc] :: .op (POper.mk (some 12) (.callf 15 [(.const (.int .i64 4)), (.const (.int .i64 1)), (.const (.int .i64 3))]) (some (11, true))) none :: law08_lives_o4_12
def law08_lives_o4_4 : List WOp := .op (POper.mk (some 5) (.bin .eql (.tmp 4) (.const (.int .i64 3))) (some (3, true))) none :: .op (POper.mk (some 6) (.pick (.tmp 3) (.tmp 5) (.const (.bool false))) none) none :: .op (POper.mk (some 7) (.move (.tmp 6)) none) none :: .ann [.mask [7], .gc] :: .op (POper.mk (some 8) (.callf 13 [(.const (.int .i64 4))]) (some (7, true))) none :: law08_lives_o4_8
def law08_lives_o4_1 : List WOp := .op (POper.mk (some 2) (.bin .eql (.tmp 1) (.const (.int .i64 2))) none) none :: .op (POper.mk (some 3) (.move (.tmp 2)) none) none :: .ann [.mask [3], .gc] :: .op (POper.mk (some 4) (.callf 11 [(.const (.int .i64 4))]) (some (3, true))) none :: law08_lives_o4_4
def law08_lives_o4_0 : List WOp := .ann [.mask [], .gc] :: .op (POper.mk (some 1) (.callf 9 [(.const (.int .i64 4)), (.const (.int .i64 3))]) none) none :: law08_lives_o4_1
def law08_lives_w4 : WC := (.region law08_lives_o4_0)
def law08_lives_w3 : WC := (.seq law08_lives_w4 .ret)
def law08_lives_w1 : WC := (.seq law08_lives_w2 law08_lives_w3)
theorem law08_lives_rc : resolveC Try.prog [] (Try.f17.body.getD .skip) = some (WC.er law08_lives_w1) := by kernel_rfl
theorem law08_lives_rr : resolveR Try.prog Try.f17.results.toList = some [(.move (.tmp 0))] := by kernel_rfl
def law08_lives  (Q : Bool → Prop) : Prop := Run Try.prog 0 (FinS Try.prog 0 Try.f17 (law08_lives_R Q)) [.code law08_lives_w1] [.und, .und, .und, .und, .und, .und, .und, .und, .und, .und, .und, .und, .und, .und, .und] []
def law08_lives_c1  (Q : Bool → Prop) : Prop := Run Try.prog 0 (FinS Try.prog 0 Try.f17 (law08_lives_R Q)) [.ops (.op (POper.mk (some 1) (.callf 9 [(.const (.int .i64 4)), (.const (.int .i64 3))]) none) none :: law08_lives_o4_1), .code .ret] [.dead, .dead, .dead, .dead, .dead, .dead, .dead, .dead, .dead, .dead, .dead, .dead, .dead, .dead, .dead] []
def law08_lives_c2  (Q : Bool → Prop) : Prop := Run Try.prog 0 (FinS Try.prog 0 Try.f17 (law08_lives_R Q)) [.ops (.op (POper.mk (some 4) (.callf 11 [(.const (.int .i64 4))]) none) none :: law08_lives_o4_4), .code .ret] [.dead, .dead, .dead, (.bool true), .dead, .dead, .dead, .dead, .dead, .dead, .dead, .dead, .dead, .dead, .dead] []
def law08_lives_c3  (Q : Bool → Prop) : Prop := Run Try.prog 0 (FinS Try.prog 0 Try.f17 (law08_lives_R Q)) [.ops (.op (POper.mk (some 8) (.callf 13 [(.const (.int .i64 4))]) none) none :: law08_lives_o4_8), .code .ret] [.dead, .dead, .dead, .dead, .dead, .dead, .dead, (.bool true), .dead, .dead, .dead, .dead, .dead, .dead, .dead] []
def law08_lives_c4  (Q : Bool → Prop) : Prop := Run Try.prog 0 (FinS Try.prog 0 Try.f17 (law08_lives_R Q)) [.ops (.op (POper.mk (some 12) (.callf 15 [(.const (.int .i64 4)), (.const (.int .i64 1)), (.const (.int .i64 3))]) none) none :: law08_lives_o4_12), .code .ret] [.dead, .dead, .dead, .dead, .dead, .dead, .dead, .dead, .dead, .dead, .dead, (.bool true), .dead, .dead, .dead] []
theorem law08_lives_step  {Q : Bool → Prop} (h :
    law08_lives_c1 Q) : law08_lives Q :=
  adv_go 6000 mixed law08_lives_rr (fa := [.gc]) (by kernel_rfl) h
theorem law08_lives_c1_step  {Q : Bool → Prop} (r1 : Int) (hc : view_Leader 4 3 (fun x => x = r1)) (h :
    Br (r1 == 2)
      (law08_lives_c2 Q)
      (law08_lives_ret Q false)) : law08_lives_c1 Q :=
  run_callf (tout := (lendOut [] 0 (view_Leader_enc r1) (view_Leader_obj r1))) (call_typed [] (view_Leader_ok 4 3 r1 hc) (by kernel_rfl) (by kernel_rfl) (by kernel_rfl)) (adv_go 6000 mixed law08_lives_rr (fa := [.gc]) (by kernel_rfl) h)
theorem law08_lives_c2_step  {Q : Bool → Prop} (r2 : Int) (hc : view_Quorum 4 (fun x => x = r2)) (h :
    Br (r2 == 3)
      (law08_lives_c3 Q)
      (law08_lives_ret Q false)) : law08_lives_c2 Q :=
  run_callf (tout := (lendOut [] 0 (view_Quorum_enc r2) (view_Quorum_obj r2))) (call_typed [] (view_Quorum_ok 4 r2 hc) (by kernel_rfl) (by kernel_rfl) (by kernel_rfl)) (adv_go 6000 mixed law08_lives_rr (fa := [.gc]) (by kernel_rfl) h)
theorem law08_lives_c3_step  {Q : Bool → Prop} (r3 : Int) (hc : view_Faults 4 (fun x => x = r3)) (h :
    Br (r3 == 1)
      (law08_lives_c4 Q)
      (law08_lives_ret Q false)) : law08_lives_c3 Q :=
  run_callf (tout := (lendOut [] 0 (view_Faults_enc r3) (view_Faults_obj r3))) (call_typed [] (view_Faults_ok 4 r3 hc) (by kernel_rfl) (by kernel_rfl) (by kernel_rfl)) (adv_go 6000 mixed law08_lives_rr (fa := [.gc]) (by kernel_rfl) h)
theorem law08_lives_c4_step  {Q : Bool → Prop} (r4 : Int) (hc : view_Next 4 1 3 (fun x => x = r4)) (h :
    law08_lives_ret Q (r4 == 6)) : law08_lives_c4 Q :=
  run_callf (tout := (lendOut [] 0 (view_Next_enc r4) (view_Next_obj r4))) (call_typed [] (view_Next_ok 4 1 3 r4 hc) (by kernel_rfl) (by kernel_rfl) (by kernel_rfl)) (adv_go 6000 mixed law08_lives_rr (fa := [.gc]) (by kernel_rfl) h)
theorem law08_lives_act  {Q : Bool → Prop} (h : law08_lives Q) : ACT Try.prog 17 [] [] (law08_lives_R Q) :=
  act_go Try.func17 (by rfl) (by kernel_rfl) law08_lives_rc (n0 := 0) rfl (by kernel_rfl) h
theorem law08_lives_ok  (r : Bool) (h : law08_lives (fun x => x = r)) : ACT Try.prog 17 [] [] (fun tv tL => tv = law08_lives_enc r ∧ tL = law08_lives_obj r) := act_det (law08_lives_act h)

/-! drover/droverref04.weigh -/
def ref04_weigh_enc  : Int → TV := fun r => (.int .i64 r)
def ref04_weigh_obj  : Int → List TO := fun r => []
def ref04_weigh_R  (Q : Int → Prop) : TV → List TO → Prop := RetR (ref04_weigh_enc) (ref04_weigh_obj) Q
def ref04_weigh_ret  (Q : Int → Prop) (r : Int) : Prop := ref04_weigh_R Q (ref04_weigh_enc r) (ref04_weigh_obj r)
theorem ref04_weigh_ret.intro  {Q : Int → Prop} {r : Int} (h : Q r) : ref04_weigh_ret Q r := RetR.intro h
def ref04_weigh_o2_0 : List WOp := .op (POper.mk (some 2) (.box 10 (.tmp 0)) none) none :: .op (POper.mk (some 4) (.move (.const (.int .i64 0))) none) none :: []
def ref04_weigh_w2 : WC := (.region ref04_weigh_o2_0)
def ref04_weigh_o4_0 : List WOp := .op (POper.mk (some 8) (.faddr 3 (.tmp 2)) none) none :: .op (POper.mk (some 9) (.faddr 0 (.tmp 8)) none) none :: .op (POper.mk (some 10) (.load1 (.tmp 9)) none) none :: .op (POper.mk (some 11) (.lenS (.tmp 10)) none) none :: .op (POper.mk (some 12) (.bin .quo (.tmp 11) (.const (.int .i64 20))) none) none :: .op (POper.mk (some 13) (.bin .add (.const (.int .i64 1)) (.tmp 12)) none) none :: .op (POper.mk (some 5) (.move (.tmp 13)) none) none :: []
def ref04_weigh_w4 : WC := (.region ref04_weigh_o4_0)
def ref04_weigh_o7_0 : List WOp := .op (POper.mk (some 14) (.faddr 3 (.tmp 2)) none) none :: .op (POper.mk (some 15) (.faddr 1 (.tmp 14)) none) none :: .op (POper.mk (some 16) (.load1 (.tmp 15)) none) none :: .op (POper.mk (some 17) (.len (.tmp 16)) none) none :: .op (POper.mk (some 18) (.move (.const (.int .i64 0))) none) none :: []
def ref04_weigh_w7 : WC := (.region ref04_weigh_o7_0)
def ref04_weigh_o11_0 : List WOp := .op (POper.mk (some 19) (.bin .lss (.tmp 18) (.tmp 17)) none) none :: []
def ref04_weigh_w11 : WC := (.region ref04_weigh_o11_0)
def ref04_weigh_w13 : WC := (.cond (.tmp 19) .skip (.exit 0))
def ref04_weigh_o19_0 : List WOp := .op (POper.mk (some 20) (.iaddr 6 (.tmp 16) (.tmp 18)) none) none :: .op (POper.mk (some 21) (.loadN 6 (.tmp 20)) none) none :: .op (POper.mk (some 7) (.alloc [(.d (.str (ByteArray.mk #[]))), (.d (.int .i64 0)), (.d (.int .i64 0)), (.d (.int .i64 0)), (.d (.bool false)), (.d (.bool false))]) none) none :: .op (POper.mk none (.store 6 (.tmp 7) (.tmp 21)) none) none :: []
def ref04_weigh_w19 : WC := (.region ref04_weigh_o19_0)
def ref04_weigh_o21_0 : List WOp := .op (POper.mk (some 22) (.move (.tmp 5)) none) none :: .op (POper.mk (some 23) (.faddr 0 (.tmp 7)) none) none :: .op (POper.mk (some 24) (.load1 (.tmp 23)) none) none :: .op (POper.mk (some 25) (.lenS (.tmp 24)) none) none :: .op (POper.mk (some 26) (.bin .quo (.tmp 25) (.const (.int .i64 20))) none) none :: .op (POper.mk (some 27) (.bin .add (.const (.int .i64 1)) (.tmp 26)) none) none :: .op (POper.mk (some 28) (.bin .add (.tmp 22) (.tmp 27)) none) none :: .op (POper.mk (some 5) (.move (.tmp 28)) none) none :: []
def ref04_weigh_w21 : WC := (.region ref04_weigh_o21_0)
def ref04_weigh_o23_0 : List WOp := .op (POper.mk (some 29) (.move (.tmp 5)) none) none :: .op (POper.mk (some 30) (.move (.tmp 1)) none) none :: .op (POper.mk (some 31) (.bin .gtr (.tmp 29) (.tmp 30)) none) none :: []
def ref04_weigh_w23 : WC := (.region ref04_weigh_o23_0)
def ref04_weigh_o26_0 : List WOp := .op (POper.mk (some 32) (.move (.tmp 5)) none) none :: .op (POper.mk (some 4) (.move (.tmp 32)) none) none :: []
def ref04_weigh_w26 : WC := (.region ref04_weigh_o26_0)
def ref04_weigh_w25 : WC := (.seq ref04_weigh_w26 .ret)
def ref04_weigh_w24 : WC := (.cond (.tmp 31) ref04_weigh_w25 .skip)
def ref04_weigh_w22 : WC := (.seq ref04_weigh_w23 ref04_weigh_w24)
def ref04_weigh_w20 : WC := (.seq ref04_weigh_w21 ref04_weigh_w22)
def ref04_weigh_w18 : WC := (.seq ref04_weigh_w19 ref04_weigh_w20)
def ref04_weigh_w17 : WC := (.block 1 ref04_weigh_w18)
def ref04_weigh_o29_0 : List WOp := .op (POper.mk (some 33) (.bin .add (.tmp 18) (.const (.int .i64 1))) none) none :: .op (POper.mk (some 18) (.move (.tmp 33)) none) none :: []
def ref04_weigh_w29 : WC := (.region ref04_weigh_o29_0)
def ref04_weigh_w16 : WC := (.seq ref04_weigh_w17 ref04_weigh_w29)
def ref04_weigh_w12 : WC := (.seq ref04_weigh_w13 ref04_weigh_w16)
def ref04_weigh_w10 : WC := (.seq ref04_weigh_w11 ref04_weigh_w12)
def ref04_weigh_w9 : WC := (.loop [.mask [1, 5, 16, 17, 18], .gc] ref04_weigh_w10)
def ref04_weigh_w8 : WC := (.block 0 (.ann [.mask [1, 5, 16, 17, 18], .gc] ref04_weigh_w9))
def ref04_weigh_w6 : WC := (.seq ref04_weigh_w7 ref04_weigh_w8)
def ref04_weigh_o31_0 : List WOp := .op (POper.mk (some 34) (.move (.tmp 5)) none) none :: .op (POper.mk (some 4) (.move (.tmp 34)) none) none :: []
def ref04_weigh_w31 : WC := (.region ref04_weigh_o31_0)
def ref04_weigh_w30 : WC := (.seq ref04_weigh_w31 .ret)
def ref04_weigh_w5 : WC := (.seq ref04_weigh_w6 ref04_weigh_w30)
def ref04_weigh_w3 : WC := (.seq ref04_weigh_w4 ref04_weigh_w5)
def ref04_weigh_w1 : WC := (.seq ref04_weigh_w2 ref04_weigh_w3)
theorem ref04_weigh_rc : resolveC Try.prog [] (Try.f35.body.getD .skip) = some (WC.er ref04_weigh_w1) := by kernel_rfl
theorem ref04_weigh_rr : resolveR Try.prog Try.f35.results.toList = some [(.move (.tmp 4))] := by kernel_rfl
def ref04_weigh (o0 : eR2.T) (most1 : Int) (Q : Int → Prop) : Prop := Run Try.prog 0 (FinS Try.prog 0 Try.f35 (ref04_weigh_R Q)) [.code ref04_weigh_w1] [(.agg [(.int .i64 o0.1), (.int .i64 o0.2.1), (.int .i64 o0.2.2.1), (.str o0.2.2.2.1), (.sl eR1 o0.2.2.2.2.1), (.int .i64 o0.2.2.2.2.2.1), (.int .i64 o0.2.2.2.2.2.2.1), (.int .i64 o0.2.2.2.2.2.2.2.1), (.bool o0.2.2.2.2.2.2.2.2.1), (.bool o0.2.2.2.2.2.2.2.2.2)]), (.int .i64 most1), .und, .und, .und, .und, .und, .und, .und, .und, .und, .und, .und, .und, .und, .und, .und, .und, .und, .und, .und, .und, .und, .und, .und, .und, .und, .und, .und, .und, .und, .und, .und, .und, .und] []
def ref04_weigh_l1 (most1 : Int) (n2 : Int) (o0 : eR2.T) (x3 : Int) (Q : Int → Prop) : Prop := Run Try.prog 0 (FinS Try.prog 0 Try.f35 (ref04_weigh_R Q)) [.lp [.mask [1, 5, 16, 17, 18], .gc] ref04_weigh_w10, .bend 0, .code ref04_weigh_w30] [.dead, (.int .i64 most1), .dead, .dead, .dead, (.int .i64 n2), .dead, .dead, .dead, .dead, .dead, .dead, .dead, .dead, .dead, .dead, (.sl eR1 o0.2.2.2.2.1), (.int .i64 (o0.2.2.2.2.1.length : Int)), (.int .i64 x3), .dead, .dead, .dead, .dead, .dead, .dead, .dead, .dead, .dead, .dead, .dead, .dead, .dead, .dead, .dead, .dead] []
theorem ref04_weigh_step (o0 : eR2.T) (most1 : Int) {Q : Int → Prop} (h :
    ((20 : Int) ≠ 0) ∧
    ref04_weigh_l1 most1 (addK .i64 1 (quoK .i64 (o0.2.2.2.1.size : Int) 20)) o0 0 Q) : ref04_weigh o0 most1 Q :=
  adv_go 6000 mixed ref04_weigh_rr (fa := [.gc]) (by kernel_rfl) h
theorem ref04_weigh_l1_step (most1 : Int) (n2 : Int) (o0 : eR2.T) (x3 : Int) {Q : Int → Prop} (h :
    Br (decide (x3 < (o0.2.2.2.2.1.length : Int)))
      ((0 ≤ x3 ∧ x3.toNat < o0.2.2.2.2.1.length) ∧
      ((20 : Int) ≠ 0) ∧
      Br (decide ((addK .i64 n2 (addK .i64 1 (quoK .i64 (((rd eR1 o0.2.2.2.2.1 x3.toNat).1).size : Int) 20))) > most1))
        (ref04_weigh_ret Q (addK .i64 n2 (addK .i64 1 (quoK .i64 (((rd eR1 o0.2.2.2.2.1 x3.toNat).1).size : Int) 20))))
        (ref04_weigh_l1 most1 (addK .i64 n2 (addK .i64 1 (quoK .i64 (((rd eR1 o0.2.2.2.2.1 x3.toNat).1).size : Int) 20))) o0 (addK .i64 x3 1) Q))
      (ref04_weigh_ret Q n2)) : ref04_weigh_l1 most1 n2 o0 x3 Q :=
  run_loop (adv_go 6000 mixed ref04_weigh_rr (fa := [.gc]) (by kernel_rfl) h)
theorem ref04_weigh_act (o0 : eR2.T) (most1 : Int) {Q : Int → Prop} (h : ref04_weigh o0 most1 Q) : ACT Try.prog 35 [(.agg [(.int .i64 o0.1), (.int .i64 o0.2.1), (.int .i64 o0.2.2.1), (.str o0.2.2.2.1), (.sl eR1 o0.2.2.2.2.1), (.int .i64 o0.2.2.2.2.2.1), (.int .i64 o0.2.2.2.2.2.2.1), (.int .i64 o0.2.2.2.2.2.2.2.1), (.bool o0.2.2.2.2.2.2.2.2.1), (.bool o0.2.2.2.2.2.2.2.2.2)]), (.int .i64 most1)] [] (ref04_weigh_R Q) :=
  act_go Try.func35 (by rfl) (by kernel_rfl) ref04_weigh_rc (n0 := 0) rfl (by kernel_rfl) h
theorem ref04_weigh_ok (o0 : eR2.T) (most1 : Int) (r : Int) (h : ref04_weigh o0 most1 (fun x => x = r)) : ACT Try.prog 35 [(.agg [(.int .i64 o0.1), (.int .i64 o0.2.1), (.int .i64 o0.2.2.1), (.str o0.2.2.2.1), (.sl eR1 o0.2.2.2.2.1), (.int .i64 o0.2.2.2.2.2.1), (.int .i64 o0.2.2.2.2.2.2.1), (.int .i64 o0.2.2.2.2.2.2.2.1), (.bool o0.2.2.2.2.2.2.2.2.1), (.bool o0.2.2.2.2.2.2.2.2.2)]), (.int .i64 most1)] [] (fun tv tL => tv = ref04_weigh_enc r ∧ tL = ref04_weigh_obj r) := act_det (ref04_weigh_act o0 most1 h)

/-! drover/droverref04.Steps -/
def ref04_Steps_enc  : Int → TV := fun r => (.int .i64 r)
def ref04_Steps_obj  : Int → List TO := fun r => []
def ref04_Steps_R  (Q : Int → Prop) : TV → List TO → Prop := RetR (ref04_Steps_enc) (ref04_Steps_obj) Q
def ref04_Steps_ret  (Q : Int → Prop) (r : Int) : Prop := ref04_Steps_R Q (ref04_Steps_enc r) (ref04_Steps_obj r)
theorem ref04_Steps_ret.intro  {Q : Int → Prop} {r : Int} (h : Q r) : ref04_Steps_ret Q r := RetR.intro h
def ref04_Steps_o2_0 : List WOp := .op (POper.mk (some 2) (.box 34 (.tmp 0)) none) none :: .op (POper.mk (some 4) (.move (.const (.int .i64 0))) none) none :: []
def ref04_Steps_w2 : WC := (.region ref04_Steps_o2_0)
def ref04_Steps_o4_4 : List WOp := .op (POper.mk (some 5) (.move (.tmp 11)) none) none :: []
def ref04_Steps_o4_0 : List WOp := .op (POper.mk (some 8) (.faddr 12 (.tmp 2)) none) none :: .op (POper.mk (some 9) (.loadN 10 (.tmp 8)) none) none :: .op (POper.mk (some 10) (.move (.tmp 1)) none) none :: .ann [.mask [1, 2, 9, 10], .gc] :: .op (POper.mk (some 11) (.callf 35 [(.tmp 9), (.tmp 10)]) none) none :: ref04_Steps_o4_4
def ref04_Steps_w4 : WC := (.region ref04_Steps_o4_0)
def ref04_Steps_o7_0 : List WOp := .op (POper.mk (some 12) (.faddr 32 (.tmp 2)) none) none :: .op (POper.mk (some 13) (.load1 (.tmp 12)) none) none :: .op (POper.mk (some 14) (.len (.tmp 13)) none) none :: .op (POper.mk (some 15) (.move (.const (.int .i64 0))) none) none :: []
def ref04_Steps_w7 : WC := (.region ref04_Steps_o7_0)
def ref04_Steps_o11_0 : List WOp := .op (POper.mk (some 16) (.bin .lss (.tmp 15) (.tmp 14)) none) none :: []
def ref04_Steps_w11 : WC := (.region ref04_Steps_o11_0)
def ref04_Steps_w13 : WC := (.cond (.tmp 16) .skip (.exit 0))
def ref04_Steps_o19_0 : List WOp := .op (POper.mk (some 17) (.iaddr 10 (.tmp 13) (.tmp 15)) none) none :: .op (POper.mk (some 18) (.loadN 10 (.tmp 17)) none) none :: .op (POper.mk (some 7) (.alloc [(.d (.int .i64 0)), (.d (.int .i64 0)), (.d (.int .i64 0)), (.d (.str (ByteArray.mk #[]))), .nilsl, (.d (.int .i64 0)), (.d (.int .i64 0)), (.d (.int .i64 0)), (.d (.bool false)), (.d (.bool false))]) none) none :: .op (POper.mk none (.store 10 (.tmp 7) (.tmp 18)) none) none :: []
def ref04_Steps_w19 : WC := (.region ref04_Steps_o19_0)
def ref04_Steps_o22_0 : List WOp := .op (POper.mk (some 19) (.move (.tmp 5)) none) none :: .op (POper.mk (some 20) (.move (.tmp 1)) none) none :: .op (POper.mk (some 21) (.bin .gtr (.tmp 19) (.tmp 20)) none) none :: []
def ref04_Steps_w22 : WC := (.region ref04_Steps_o22_0)
def ref04_Steps_o25_0 : List WOp := .op (POper.mk (some 22) (.move (.tmp 5)) none) none :: .op (POper.mk (some 4) (.move (.tmp 22)) none) none :: []
def ref04_Steps_w25 : WC := (.region ref04_Steps_o25_0)
def ref04_Steps_w24 : WC := (.seq ref04_Steps_w25 .ret)
def ref04_Steps_w23 : WC := (.cond (.tmp 21) ref04_Steps_w24 .skip)
def ref04_Steps_w21 : WC := (.seq ref04_Steps_w22 ref04_Steps_w23)
def ref04_Steps_o28_4 : List WOp := .op (POper.mk (some 27) (.bin .add (.const (.int .i64 1)) (.tmp 26)) none) none :: .op (POper.mk (some 28) (.bin .add (.tmp 23) (.tmp 27)) none) none :: .op (POper.mk (some 5) (.move (.tmp 28)) none) none :: []
def ref04_Steps_o28_0 : List WOp := .op (POper.mk (some 23) (.move (.tmp 5)) none) none :: .op (POper.mk (some 24) (.loadN 10 (.tmp 7)) none) none :: .op (POper.mk (some 25) (.move (.tmp 1)) none) none :: .ann [.mask [1, 13, 14, 15, 23, 24, 25], .gc] :: .op (POper.mk (some 26) (.callf 35 [(.tmp 24), (.tmp 25)]) none) none :: ref04_Steps_o28_4
def ref04_Steps_w28 : WC := (.region ref04_Steps_o28_0)
def ref04_Steps_w20 : WC := (.seq ref04_Steps_w21 ref04_Steps_w28)
def ref04_Steps_w18 : WC := (.seq ref04_Steps_w19 ref04_Steps_w20)
def ref04_Steps_w17 : WC := (.block 1 ref04_Steps_w18)
def ref04_Steps_o29_0 : List WOp := .op (POper.mk (some 29) (.bin .add (.tmp 15) (.const (.int .i64 1))) none) none :: .op (POper.mk (some 15) (.move (.tmp 29)) none) none :: []
def ref04_Steps_w29 : WC := (.region ref04_Steps_o29_0)
def ref04_Steps_w16 : WC := (.seq ref04_Steps_w17 ref04_Steps_w29)
def ref04_Steps_w12 : WC := (.seq ref04_Steps_w13 ref04_Steps_w16)
def ref04_Steps_w10 : WC := (.seq ref04_Steps_w11 ref04_Steps_w12)
def ref04_Steps_w9 : WC := (.loop [.mask [1, 5, 13, 14, 15], .gc] ref04_Steps_w10)
def ref04_Steps_w8 : WC := (.block 0 (.ann [.mask [1, 5, 13, 14, 15], .gc] ref04_Steps_w9))
def ref04_Steps_w6 : WC := (.seq ref04_Steps_w7 ref04_Steps_w8)
def ref04_Steps_o31_0 : List WOp := .op (POper.mk (some 30) (.move (.tmp 5)) none) none :: .op (POper.mk (some 4) (.move (.tmp 30)) none) none :: []
def ref04_Steps_w31 : WC := (.region ref04_Steps_o31_0)
def ref04_Steps_w30 : WC := (.seq ref04_Steps_w31 .ret)
def ref04_Steps_w5 : WC := (.seq ref04_Steps_w6 ref04_Steps_w30)
def ref04_Steps_w3 : WC := (.seq ref04_Steps_w4 ref04_Steps_w5)
def ref04_Steps_w1 : WC := (.seq ref04_Steps_w2 ref04_Steps_w3)
theorem ref04_Steps_rc : resolveC Try.prog [] (Try.f18.body.getD .skip) = some (WC.er ref04_Steps_w1) := by kernel_rfl
theorem ref04_Steps_rr : resolveR Try.prog Try.f18.results.toList = some [(.move (.tmp 4))] := by kernel_rfl
def ref04_Steps (m0 : eR0.T) (most1 : Int) (Q : Int → Prop) : Prop := Run Try.prog 0 (FinS Try.prog 0 Try.f18 (ref04_Steps_R Q)) [.code ref04_Steps_w1] [(.agg [(.int .i64 m0.1), (.int .i64 m0.2.1), (.int .i64 m0.2.2.1), (.int .i64 m0.2.2.2.1), (.int .i64 m0.2.2.2.2.1), (.int .i64 m0.2.2.2.2.2.1), (.int .i64 m0.2.2.2.2.2.2.1), (.int .i64 m0.2.2.2.2.2.2.2.1), (.int .i64 m0.2.2.2.2.2.2.2.2.1), (.bool m0.2.2.2.2.2.2.2.2.2.1), (.bool m0.2.2.2.2.2.2.2.2.2.2.1), (.bool m0.2.2.2.2.2.2.2.2.2.2.2.1), (.int .i64 m0.2.2.2.2.2.2.2.2.2.2.2.2.1), (.int .i64 m0.2.2.2.2.2.2.2.2.2.2.2.2.2.1), (.int .i64 m0.2.2.2.2.2.2.2.2.2.2.2.2.2.2.1), (.str m0.2.2.2.2.2.2.2.2.2.2.2.2.2.2.2.1), (.sl eR1 m0.2.2.2.2.2.2.2.2.2.2.2.2.2.2.2.2.1), (.int .i64 m0.2.2.2.2.2.2.2.2.2.2.2.2.2.2.2.2.2.1), (.int .i64 m0.2.2.2.2.2.2.2.2.2.2.2.2.2.2.2.2.2.2.1), (.int .i64 m0.2.2.2.2.2.2.2.2.2.2.2.2.2.2.2.2.2.2.2.1), (.bool m0.2.2.2.2.2.2.2.2.2.2.2.2.2.2.2.2.2.2.2.2.1), (.bool m0.2.2.2.2.2.2.2.2.2.2.2.2.2.2.2.2.2.2.2.2.2.1), (.int .i64 m0.2.2.2.2.2.2.2.2.2.2.2.2.2.2.2.2.2.2.2.2.2.2.1), (.int .i64 m0.2.2.2.2.2.2.2.2.2.2.2.2.2.2.2.2.2.2.2.2.2.2.2.1), (.int .i64 m0.2.2.2.2.2.2.2.2.2.2.2.2.2.2.2.2.2.2.2.2.2.2.2.2.1), (.int .i64 m0.2.2.2.2.2.2.2.2.2.2.2.2.2.2.2.2.2.2.2.2.2.2.2.2.2.1), (.int .i64 m0.2.2.2.2.2.2.2.2.2.2.2.2.2.2.2.2.2.2.2.2.2.2.2.2.2.2.1), (.int .i64 m0.2.2.2.2.2.2.2.2.2.2.2.2.2.2.2.2.2.2.2.2.2.2.2.2.2.2.2.1), (.int .i64 m0.2.2.2.2.2.2.2.2.2.2.2.2.2.2.2.2.2.2.2.2.2.2.2.2.2.2.2.2.1), (.int .i64 m0.2.2.2.2.2.2.2.2.2.2.2.2.2.2.2.2.2.2.2.2.2.2.2.2.2.2.2.2.2.1), (.int .i64 m0.2.2.2.2.2.2.2.2.2.2.2.2.2.2.2.2.2.2.2.2.2.2.2.2.2.2.2.2.2.2.1), (.bool m0.2.2.2.2.2.2.2.2.2.2.2.2.2.2.2.2.2.2.2.2.2.2.2.2.2.2.2.2.2.2.2.1), (.sl eR2 m0.2.2.2.2.2.2.2.2.2.2.2.2.2.2.2.2.2.2.2.2.2.2.2.2.2.2.2.2.2.2.2.2.1), (.sl eI64 m0.2.2.2.2.2.2.2.2.2.2.2.2.2.2.2.2.2.2.2.2.2.2.2.2.2.2.2.2.2.2.2.2.2)]), (.int .i64 most1), .und, .und, .und, .und, .und, .und, .und, .und, .und, .und, .und, .und, .und, .und, .und, .und, .und, .und, .und, .und, .und, .und, .und, .und, .und, .und, .und, .und, .und] []
def ref04_Steps_c1 (most1 : Int) (m0 : eR0.T) (Q : Int → Prop) : Prop := Run Try.prog 0 (FinS Try.prog 0 Try.f18 (ref04_Steps_R Q)) [.ops (.op (POper.mk (some 11) (.callf 35 [(.tmp 9), (.tmp 10)]) none) none :: ref04_Steps_o4_4), .code ref04_Steps_w5] [.dead, (.int .i64 most1), (.ptr 0 0), .dead, .dead, .dead, .dead, .dead, .dead, (.agg [(.int .i64 m0.2.2.2.2.2.2.2.2.2.2.2.2.1), (.int .i64 m0.2.2.2.2.2.2.2.2.2.2.2.2.2.1), (.int .i64 m0.2.2.2.2.2.2.2.2.2.2.2.2.2.2.1), (.str m0.2.2.2.2.2.2.2.2.2.2.2.2.2.2.2.1), (.sl eR1 m0.2.2.2.2.2.2.2.2.2.2.2.2.2.2.2.2.1), (.int .i64 m0.2.2.2.2.2.2.2.2.2.2.2.2.2.2.2.2.2.1), (.int .i64 m0.2.2.2.2.2.2.2.2.2.2.2.2.2.2.2.2.2.2.1), (.int .i64 m0.2.2.2.2.2.2.2.2.2.2.2.2.2.2.2.2.2.2.2.1), (.bool m0.2.2.2.2.2.2.2.2.2.2.2.2.2.2.2.2.2.2.2.2.1), (.bool m0.2.2.2.2.2.2.2.2.2.2.2.2.2.2.2.2.2.2.2.2.2.1)]), (.int .i64 most1), .dead, .dead, .dead, .dead, .dead, .dead, .dead, .dead, .dead, .dead, .dead, .dead, .dead, .dead, .dead, .dead, .dead, .dead, .dead, .dead] [(.arr [(.int .i64 m0.1), (.int .i64 m0.2.1), (.int .i64 m0.2.2.1), (.int .i64 m0.2.2.2.1), (.int .i64 m0.2.2.2.2.1), (.int .i64 m0.2.2.2.2.2.1), (.int .i64 m0.2.2.2.2.2.2.1), (.int .i64 m0.2.2.2.2.2.2.2.1), (.int .i64 m0.2.2.2.2.2.2.2.2.1), (.bool m0.2.2.2.2.2.2.2.2.2.1), (.bool m0.2.2.2.2.2.2.2.2.2.2.1), (.bool m0.2.2.2.2.2.2.2.2.2.2.2.1), (.int .i64 m0.2.2.2.2.2.2.2.2.2.2.2.2.1), (.int .i64 m0.2.2.2.2.2.2.2.2.2.2.2.2.2.1), (.int .i64 m0.2.2.2.2.2.2.2.2.2.2.2.2.2.2.1), (.str m0.2.2.2.2.2.2.2.2.2.2.2.2.2.2.2.1), (.sl eR1 m0.2.2.2.2.2.2.2.2.2.2.2.2.2.2.2.2.1), (.int .i64 m0.2.2.2.2.2.2.2.2.2.2.2.2.2.2.2.2.2.1), (.int .i64 m0.2.2.2.2.2.2.2.2.2.2.2.2.2.2.2.2.2.2.1), (.int .i64 m0.2.2.2.2.2.2.2.2.2.2.2.2.2.2.2.2.2.2.2.1), (.bool m0.2.2.2.2.2.2.2.2.2.2.2.2.2.2.2.2.2.2.2.2.1), (.bool m0.2.2.2.2.2.2.2.2.2.2.2.2.2.2.2.2.2.2.2.2.2.1), (.int .i64 m0.2.2.2.2.2.2.2.2.2.2.2.2.2.2.2.2.2.2.2.2.2.2.1), (.int .i64 m0.2.2.2.2.2.2.2.2.2.2.2.2.2.2.2.2.2.2.2.2.2.2.2.1), (.int .i64 m0.2.2.2.2.2.2.2.2.2.2.2.2.2.2.2.2.2.2.2.2.2.2.2.2.1), (.int .i64 m0.2.2.2.2.2.2.2.2.2.2.2.2.2.2.2.2.2.2.2.2.2.2.2.2.2.1), (.int .i64 m0.2.2.2.2.2.2.2.2.2.2.2.2.2.2.2.2.2.2.2.2.2.2.2.2.2.2.1), (.int .i64 m0.2.2.2.2.2.2.2.2.2.2.2.2.2.2.2.2.2.2.2.2.2.2.2.2.2.2.2.1), (.int .i64 m0.2.2.2.2.2.2.2.2.2.2.2.2.2.2.2.2.2.2.2.2.2.2.2.2.2.2.2.2.1), (.int .i64 m0.2.2.2.2.2.2.2.2.2.2.2.2.2.2.2.2.2.2.2.2.2.2.2.2.2.2.2.2.2.1), (.int .i64 m0.2.2.2.2.2.2.2.2.2.2.2.2.2.2.2.2.2.2.2.2.2.2.2.2.2.2.2.2.2.2.1), (.bool m0.2.2.2.2.2.2.2.2.2.2.2.2.2.2.2.2.2.2.2.2.2.2.2.2.2.2.2.2.2.2.2.1), (.sl eR2 m0.2.2.2.2.2.2.2.2.2.2.2.2.2.2.2.2.2.2.2.2.2.2.2.2.2.2.2.2.2.2.2.2.1), (.sl eI64 m0.2.2.2.2.2.2.2.2.2.2.2.2.2.2.2.2.2.2.2.2.2.2.2.2.2.2.2.2.2.2.2.2.2)])]
def ref04_Steps_l1 (most1 : Int) (n3 : Int) (m0 : eR0.T) (x4 : Int) (Q : Int → Prop) : Prop := Run Try.prog 0 (FinS Try.prog 0 Try.f18 (ref04_Steps_R Q)) [.lp [.mask [1, 5, 13, 14, 15], .gc] ref04_Steps_w10, .bend 0, .code ref04_Steps_w30] [.dead, (.int .i64 most1), .dead, .dead, .dead, (.int .i64 n3), .dead, .dead, .dead, .dead, .dead, .dead, .dead, (.sl eR2 m0.2.2.2.2.2.2.2.2.2.2.2.2.2.2.2.2.2.2.2.2.2.2.2.2.2.2.2.2.2.2.2.2.1), (.int .i64 (m0.2.2.2.2.2.2.2.2.2.2.2.2.2.2.2.2.2.2.2.2.2.2.2.2.2.2.2.2.2.2.2.2.1.length : Int)), (.int .i64 x4), .dead, .dead, .dead, .dead, .dead, .dead, .dead, .dead, .dead, .dead, .dead, .dead, .dead, .dead, .dead] []
def ref04_Steps_c2 (most1 : Int) (m0 : eR0.T) (x4 : Int) (n3 : Int) (Q : Int → Prop) : Prop := Run Try.prog 0 (FinS Try.prog 0 Try.f18 (ref04_Steps_R Q)) [.ops (.op (POper.mk (some 26) (.callf 35 [(.tmp 24), (.tmp 25)]) none) none :: ref04_Steps_o28_4), .bend 1, .code ref04_Steps_w29, .lp [.mask [1, 5, 13, 14, 15], .gc] ref04_Steps_w10, .bend 0, .code ref04_Steps_w30] [.dead, (.int .i64 most1), .dead, .dead, .dead, .dead, .dead, .dead, .dead, .dead, .dead, .dead, .dead, (.sl eR2 m0.2.2.2.2.2.2.2.2.2.2.2.2.2.2.2.2.2.2.2.2.2.2.2.2.2.2.2.2.2.2.2.2.1), (.int .i64 (m0.2.2.2.2.2.2.2.2.2.2.2.2.2.2.2.2.2.2.2.2.2.2.2.2.2.2.2.2.2.2.2.2.1.length : Int)), (.int .i64 x4), .dead, .dead, .dead, .dead, .dead, .dead, .dead, (.int .i64 n3), (.agg [(.int .i64 ((rd eR2 m0.2.2.2.2.2.2.2.2.2.2.2.2.2.2.2.2.2.2.2.2.2.2.2.2.2.2.2.2.2.2.2.2.1 x4.toNat).1)), (.int .i64 ((rd eR2 m0.2.2.2.2.2.2.2.2.2.2.2.2.2.2.2.2.2.2.2.2.2.2.2.2.2.2.2.2.2.2.2.2.1 x4.toNat).2.1)), (.int .i64 ((rd eR2 m0.2.2.2.2.2.2.2.2.2.2.2.2.2.2.2.2.2.2.2.2.2.2.2.2.2.2.2.2.2.2.2.2.1 x4.toNat).2.2.1)), (.str ((rd eR2 m0.2.2.2.2.2.2.2.2.2.2.2.2.2.2.2.2.2.2.2.2.2.2.2.2.2.2.2.2.2.2.2.2.1 x4.toNat).2.2.2.1)), (.sl eR1 ((rd eR2 m0.2.2.2.2.2.2.2.2.2.2.2.2.2.2.2.2.2.2.2.2.2.2.2.2.2.2.2.2.2.2.2.2.1 x4.toNat).2.2.2.2.1)), (.int .i64 ((rd eR2 m0.2.2.2.2.2.2.2.2.2.2.2.2.2.2.2.2.2.2.2.2.2.2.2.2.2.2.2.2.2.2.2.2.1 x4.toNat).2.2.2.2.2.1)), (.int .i64 ((rd eR2 m0.2.2.2.2.2.2.2.2.2.2.2.2.2.2.2.2.2.2.2.2.2.2.2.2.2.2.2.2.2.2.2.2.1 x4.toNat).2.2.2.2.2.2.1)), (.int .i64 ((rd eR2 m0.2.2.2.2.2.2.2.2.2.2.2.2.2.2.2.2.2.2.2.2.2.2.2.2.2.2.2.2.2.2.2.2.1 x4.toNat).2.2.2.2.2.2.2.1)), (.bool ((rd eR2 m0.2.2.2.2.2.2.2.2.2.2.2.2.2.2.2.2.2.2.2.2.2.2.2.2.2.2.2.2.2.2.2.2.1 x4.toNat).2.2.2.2.2.2.2.2.1)), (.bool ((rd eR2 m0.2.2.2.2.2.2.2.2.2.2.2.2.2.2.2.2.2.2.2.2.2.2.2.2.2.2.2.2.2.2.2.2.1 x4.toNat).2.2.2.2.2.2.2.2.2))]), (.int .i64 most1), .dead, .dead, .dead, .dead, .dead] []
theorem ref04_Steps_step (m0 : eR0.T) (most1 : Int) {Q : Int → Prop} (h :
    ref04_Steps_c1 most1 m0 Q) : ref04_Steps m0 most1 Q :=
  adv_go 6000 mixed ref04_Steps_rr (fa := [.gc]) (by kernel_rfl) h
theorem ref04_Steps_c1_step (most1 : Int) (m0 : eR0.T) {Q : Int → Prop} (r2 : Int) (hc : ref04_weigh (m0.2.2.2.2.2.2.2.2.2.2.2.2.1, m0.2.2.2.2.2.2.2.2.2.2.2.2.2.1, m0.2.2.2.2.2.2.2.2.2.2.2.2.2.2.1, m0.2.2.2.2.2.2.2.2.2.2.2.2.2.2.2.1, m0.2.2.2.2.2.2.2.2.2.2.2.2.2.2.2.2.1, m0.2.2.2.2.2.2.2.2.2.2.2.2.2.2.2.2.2.1, m0.2.2.2.2.2.2.2.2.2.2.2.2.2.2.2.2.2.2.1, m0.2.2.2.2.2.2.2.2.2.2.2.2.2.2.2.2.2.2.2.1, m0.2.2.2.2.2.2.2.2.2.2.2.2.2.2.2.2.2.2.2.2.1, m0.2.2.2.2.2.2.2.2.2.2.2.2.2.2.2.2.2.2.2.2.2.1) most1 (fun x => x = r2)) (h :
    ref04_Steps_l1 most1 r2 m0 0 Q) : ref04_Steps_c1 most1 m0 Q :=
  run_callf (tout := (lendOut [] 1 (ref04_weigh_enc r2) (ref04_weigh_obj r2))) (call_typed [] (ref04_weigh_ok (m0.2.2.2.2.2.2.2.2.2.2.2.2.1, m0.2.2.2.2.2.2.2.2.2.2.2.2.2.1, m0.2.2.2.2.2.2.2.2.2.2.2.2.2.2.1, m0.2.2.2.2.2.2.2.2.2.2.2.2.2.2.2.1, m0.2.2.2.2.2.2.2.2.2.2.2.2.2.2.2.2.1, m0.2.2.2.2.2.2.2.2.2.2.2.2.2.2.2.2.2.1, m0.2.2.2.2.2.2.2.2.2.2.2.2.2.2.2.2.2.2.1, m0.2.2.2.2.2.2.2.2.2.2.2.2.2.2.2.2.2.2.2.1, m0.2.2.2.2.2.2.2.2.2.2.2.2.2.2.2.2.2.2.2.2.1, m0.2.2.2.2.2.2.2.2.2.2.2.2.2.2.2.2.2.2.2.2.2.1) most1 r2 hc) (by kernel_rfl) (by kernel_rfl) (by kernel_rfl)) (adv_go 6000 mixed ref04_Steps_rr (fa := [.gc]) (by kernel_rfl) h)
theorem ref04_Steps_l1_step (most1 : Int) (n3 : Int) (m0 : eR0.T) (x4 : Int) {Q : Int → Prop} (h :
    Br (decide (x4 < (m0.2.2.2.2.2.2.2.2.2.2.2.2.2.2.2.2.2.2.2.2.2.2.2.2.2.2.2.2.2.2.2.2.1.length : Int)))
      ((0 ≤ x4 ∧ x4.toNat < m0.2.2.2.2.2.2.2.2.2.2.2.2.2.2.2.2.2.2.2.2.2.2.2.2.2.2.2.2.2.2.2.2.1.length) ∧
      Br (decide (n3 > most1))
        (ref04_Steps_ret Q n3)
        (ref04_Steps_c2 most1 m0 x4 n3 Q))
      (ref04_Steps_ret Q n3)) : ref04_Steps_l1 most1 n3 m0 x4 Q :=
  run_loop (adv_go 6000 mixed ref04_Steps_rr (fa := [.gc]) (by kernel_rfl) h)
theorem ref04_Steps_c2_step (most1 : Int) (m0 : eR0.T) (x4 : Int) (n3 : Int) {Q : Int → Prop} (r5 : Int) (hc : ref04_weigh (rd eR2 m0.2.2.2.2.2.2.2.2.2.2.2.2.2.2.2.2.2.2.2.2.2.2.2.2.2.2.2.2.2.2.2.2.1 x4.toNat) most1 (fun x => x = r5)) (h :
    ref04_Steps_l1 most1 (addK .i64 n3 (addK .i64 1 r5)) m0 (addK .i64 x4 1) Q) : ref04_Steps_c2 most1 m0 x4 n3 Q :=
  run_callf (tout := (lendOut [] 0 (ref04_weigh_enc r5) (ref04_weigh_obj r5))) (call_typed [] (ref04_weigh_ok (rd eR2 m0.2.2.2.2.2.2.2.2.2.2.2.2.2.2.2.2.2.2.2.2.2.2.2.2.2.2.2.2.2.2.2.2.1 x4.toNat) most1 r5 hc) (by kernel_rfl) (by kernel_rfl) (by kernel_rfl)) (adv_go 6000 mixed ref04_Steps_rr (fa := [.gc]) (by kernel_rfl) h)
theorem ref04_Steps_act (m0 : eR0.T) (most1 : Int) {Q : Int → Prop} (h : ref04_Steps m0 most1 Q) : ACT Try.prog 18 [(.agg [(.int .i64 m0.1), (.int .i64 m0.2.1), (.int .i64 m0.2.2.1), (.int .i64 m0.2.2.2.1), (.int .i64 m0.2.2.2.2.1), (.int .i64 m0.2.2.2.2.2.1), (.int .i64 m0.2.2.2.2.2.2.1), (.int .i64 m0.2.2.2.2.2.2.2.1), (.int .i64 m0.2.2.2.2.2.2.2.2.1), (.bool m0.2.2.2.2.2.2.2.2.2.1), (.bool m0.2.2.2.2.2.2.2.2.2.2.1), (.bool m0.2.2.2.2.2.2.2.2.2.2.2.1), (.int .i64 m0.2.2.2.2.2.2.2.2.2.2.2.2.1), (.int .i64 m0.2.2.2.2.2.2.2.2.2.2.2.2.2.1), (.int .i64 m0.2.2.2.2.2.2.2.2.2.2.2.2.2.2.1), (.str m0.2.2.2.2.2.2.2.2.2.2.2.2.2.2.2.1), (.sl eR1 m0.2.2.2.2.2.2.2.2.2.2.2.2.2.2.2.2.1), (.int .i64 m0.2.2.2.2.2.2.2.2.2.2.2.2.2.2.2.2.2.1), (.int .i64 m0.2.2.2.2.2.2.2.2.2.2.2.2.2.2.2.2.2.2.1), (.int .i64 m0.2.2.2.2.2.2.2.2.2.2.2.2.2.2.2.2.2.2.2.1), (.bool m0.2.2.2.2.2.2.2.2.2.2.2.2.2.2.2.2.2.2.2.2.1), (.bool m0.2.2.2.2.2.2.2.2.2.2.2.2.2.2.2.2.2.2.2.2.2.1), (.int .i64 m0.2.2.2.2.2.2.2.2.2.2.2.2.2.2.2.2.2.2.2.2.2.2.1), (.int .i64 m0.2.2.2.2.2.2.2.2.2.2.2.2.2.2.2.2.2.2.2.2.2.2.2.1), (.int .i64 m0.2.2.2.2.2.2.2.2.2.2.2.2.2.2.2.2.2.2.2.2.2.2.2.2.1), (.int .i64 m0.2.2.2.2.2.2.2.2.2.2.2.2.2.2.2.2.2.2.2.2.2.2.2.2.2.1), (.int .i64 m0.2.2.2.2.2.2.2.2.2.2.2.2.2.2.2.2.2.2.2.2.2.2.2.2.2.2.1), (.int .i64 m0.2.2.2.2.2.2.2.2.2.2.2.2.2.2.2.2.2.2.2.2.2.2.2.2.2.2.2.1), (.int .i64 m0.2.2.2.2.2.2.2.2.2.2.2.2.2.2.2.2.2.2.2.2.2.2.2.2.2.2.2.2.1), (.int .i64 m0.2.2.2.2.2.2.2.2.2.2.2.2.2.2.2.2.2.2.2.2.2.2.2.2.2.2.2.2.2.1), (.int .i64 m0.2.2.2.2.2.2.2.2.2.2.2.2.2.2.2.2.2.2.2.2.2.2.2.2.2.2.2.2.2.2.1), (.bool m0.2.2.2.2.2.2.2.2.2.2.2.2.2.2.2.2.2.2.2.2.2.2.2.2.2.2.2.2.2.2.2.1), (.sl eR2 m0.2.2.2.2.2.2.2.2.2.2.2.2.2.2.2.2.2.2.2.2.2.2.2.2.2.2.2.2.2.2.2.2.1), (.sl eI64 m0.2.2.2.2.2.2.2.2.2.2.2.2.2.2.2.2.2.2.2.2.2.2.2.2.2.2.2.2.2.2.2.2.2)]), (.int .i64 most1)] [] (ref04_Steps_R Q) :=
  act_go Try.func18 (by rfl) (by kernel_rfl) ref04_Steps_rc (n0 := 0) rfl (by kernel_rfl) h
theorem ref04_Steps_ok (m0 : eR0.T) (most1 : Int) (r : Int) (h : ref04_Steps m0 most1 (fun x => x = r)) : ACT Try.prog 18 [(.agg [(.int .i64 m0.1), (.int .i64 m0.2.1), (.int .i64 m0.2.2.1), (.int .i64 m0.2.2.2.1), (.int .i64 m0.2.2.2.2.1), (.int .i64 m0.2.2.2.2.2.1), (.int .i64 m0.2.2.2.2.2.2.1), (.int .i64 m0.2.2.2.2.2.2.2.1), (.int .i64 m0.2.2.2.2.2.2.2.2.1), (.bool m0.2.2.2.2.2.2.2.2.2.1), (.bool m0.2.2.2.2.2.2.2.2.2.2.1), (.bool m0.2.2.2.2.2.2.2.2.2.2.2.1), (.int .i64 m0.2.2.2.2.2.2.2.2.2.2.2.2.1), (.int .i64 m0.2.2.2.2.2.2.2.2.2.2.2.2.2.1), (.int .i64 m0.2.2.2.2.2.2.2.2.2.2.2.2.2.2.1), (.str m0.2.2.2.2.2.2.2.2.2.2.2.2.2.2.2.1), (.sl eR1 m0.2.2.2.2.2.2.2.2.2.2.2.2.2.2.2.2.1), (.int .i64 m0.2.2.2.2.2.2.2.2.2.2.2.2.2.2.2.2.2.1), (.int .i64 m0.2.2.2.2.2.2.2.2.2.2.2.2.2.2.2.2.2.2.1), (.int .i64 m0.2.2.2.2.2.2.2.2.2.2.2.2.2.2.2.2.2.2.2.1), (.bool m0.2.2.2.2.2.2.2.2.2.2.2.2.2.2.2.2.2.2.2.2.1), (.bool m0.2.2.2.2.2.2.2.2.2.2.2.2.2.2.2.2.2.2.2.2.2.1), (.int .i64 m0.2.2.2.2.2.2.2.2.2.2.2.2.2.2.2.2.2.2.2.2.2.2.1), (.int .i64 m0.2.2.2.2.2.2.2.2.2.2.2.2.2.2.2.2.2.2.2.2.2.2.2.1), (.int .i64 m0.2.2.2.2.2.2.2.2.2.2.2.2.2.2.2.2.2.2.2.2.2.2.2.2.1), (.int .i64 m0.2.2.2.2.2.2.2.2.2.2.2.2.2.2.2.2.2.2.2.2.2.2.2.2.2.1), (.int .i64 m0.2.2.2.2.2.2.2.2.2.2.2.2.2.2.2.2.2.2.2.2.2.2.2.2.2.2.1), (.int .i64 m0.2.2.2.2.2.2.2.2.2.2.2.2.2.2.2.2.2.2.2.2.2.2.2.2.2.2.2.1), (.int .i64 m0.2.2.2.2.2.2.2.2.2.2.2.2.2.2.2.2.2.2.2.2.2.2.2.2.2.2.2.2.1), (.int .i64 m0.2.2.2.2.2.2.2.2.2.2.2.2.2.2.2.2.2.2.2.2.2.2.2.2.2.2.2.2.2.1), (.int .i64 m0.2.2.2.2.2.2.2.2.2.2.2.2.2.2.2.2.2.2.2.2.2.2.2.2.2.2.2.2.2.2.1), (.bool m0.2.2.2.2.2.2.2.2.2.2.2.2.2.2.2.2.2.2.2.2.2.2.2.2.2.2.2.2.2.2.2.1), (.sl eR2 m0.2.2.2.2.2.2.2.2.2.2.2.2.2.2.2.2.2.2.2.2.2.2.2.2.2.2.2.2.2.2.2.2.1), (.sl eI64 m0.2.2.2.2.2.2.2.2.2.2.2.2.2.2.2.2.2.2.2.2.2.2.2.2.2.2.2.2.2.2.2.2.2)]), (.int .i64 most1)] [] (fun tv tL => tv = ref04_Steps_enc r ∧ tL = ref04_Steps_obj r) := act_det (ref04_Steps_act m0 most1 h)

/-! cmp.isNaN[int] -/
def cmp_isNaN_int_enc  : Bool → TV := fun r => (.bool r)
def cmp_isNaN_int_obj  : Bool → List TO := fun r => []
def cmp_isNaN_int_R  (Q : Bool → Prop) : TV → List TO → Prop := RetR (cmp_isNaN_int_enc) (cmp_isNaN_int_obj) Q
def cmp_isNaN_int_ret  (Q : Bool → Prop) (r : Bool) : Prop := cmp_isNaN_int_R Q (cmp_isNaN_int_enc r) (cmp_isNaN_int_obj r)
theorem cmp_isNaN_int_ret.intro  {Q : Bool → Prop} {r : Bool} (h : Q r) : cmp_isNaN_int_ret Q r := RetR.intro h
def cmp_isNaN_int_o2_0 : List WOp := .op (POper.mk (some 2) (.move (.const (.bool false))) none) none :: []
def cmp_isNaN_int_w2 : WC := (.region cmp_isNaN_int_o2_0)
def cmp_isNaN_int_o4_0 : List WOp := .op (POper.mk (some 3) (.move (.tmp 0)) none) none :: .op (POper.mk (some 4) (.move (.tmp 0)) none) none :: .op (POper.mk (some 5) (.bin .neq (.tmp 3) (.tmp 4)) none) none :: .op (POper.mk (some 2) (.move (.tmp 5)) none) none :: []
def cmp_isNaN_int_w4 : WC := (.region cmp_isNaN_int_o4_0)
def cmp_isNaN_int_w3 : WC := (.seq cmp_isNaN_int_w4 .ret)
def cmp_isNaN_int_w1 : WC := (.seq cmp_isNaN_int_w2 cmp_isNaN_int_w3)
theorem cmp_isNaN_int_rc : resolveC Try.prog [] (Try.f40.body.getD .skip) = some (WC.er cmp_isNaN_int_w1) := by kernel_rfl
theorem cmp_isNaN_int_rr : resolveR Try.prog Try.f40.results.toList = some [(.move (.tmp 2))] := by kernel_rfl
def cmp_isNaN_int (x0 : Int) (Q : Bool → Prop) : Prop := Run Try.prog 0 (FinS Try.prog 0 Try.f40 (cmp_isNaN_int_R Q)) [.code cmp_isNaN_int_w1] [(.int .i64 x0), .und, .und, .und, .und, .und] []
theorem cmp_isNaN_int_step (x0 : Int) {Q : Bool → Prop} (h :
    cmp_isNaN_int_ret Q (x0 != x0)) : cmp_isNaN_int x0 Q :=
  adv_go 6000 mixed cmp_isNaN_int_rr (fa := [.gc]) (by kernel_rfl) h
theorem cmp_isNaN_int_act (x0 : Int) {Q : Bool → Prop} (h : cmp_isNaN_int x0 Q) : ACT Try.prog 40 [(.int .i64 x0)] [] (cmp_isNaN_int_R Q) :=
  act_go Try.func40 (by rfl) (by kernel_rfl) cmp_isNaN_int_rc (n0 := 0) rfl (by kernel_rfl) h
theorem cmp_isNaN_int_ok (x0 : Int) (r : Bool) (h : cmp_isNaN_int x0 (fun x => x = r)) : ACT Try.prog 40 [(.int .i64 x0)] [] (fun tv tL => tv = cmp_isNaN_int_enc r ∧ tL = cmp_isNaN_int_obj r) := act_det (cmp_isNaN_int_act x0 h)

/-! cmp.Compare[int] -/
def cmp_Compare_int_enc  : Int → TV := fun r => (.int .i64 r)
def cmp_Compare_int_obj  : Int → List TO := fun r => []
def cmp_Compare_int_R  (Q : Int → Prop) : TV → List TO → Prop := RetR (cmp_Compare_int_enc) (cmp_Compare_int_obj) Q
def cmp_Compare_int_ret  (Q : Int → Prop) (r : Int) : Prop := cmp_Compare_int_R Q (cmp_Compare_int_enc r) (cmp_Compare_int_obj r)
theorem cmp_Compare_int_ret.intro  {Q : Int → Prop} {r : Int} (h : Q r) : cmp_Compare_int_ret Q r := RetR.intro h
def cmp_Compare_int_o2_0 : List WOp := .op (POper.mk (some 4) (.move (.const (.int .i64 0))) none) none :: []
def cmp_Compare_int_w2 : WC := (.region cmp_Compare_int_o2_0)
def cmp_Compare_int_o4_2 : List WOp := .op (POper.mk (some 5) (.move (.tmp 8)) none) none :: []
def cmp_Compare_int_o4_0 : List WOp := .op (POper.mk (some 7) (.move (.tmp 0)) none) none :: .ann [.mask [0, 1, 7], .gc] :: .op (POper.mk (some 8) (.callf 40 [(.tmp 7)]) none) none :: cmp_Compare_int_o4_2
def cmp_Compare_int_w4 : WC := (.region cmp_Compare_int_o4_0)
def cmp_Compare_int_o6_2 : List WOp := .op (POper.mk (some 6) (.move (.tmp 10)) none) none :: []
def cmp_Compare_int_o6_0 : List WOp := .op (POper.mk (some 9) (.move (.tmp 1)) none) none :: .ann [.mask [0, 1, 5, 9], .gc] :: .op (POper.mk (some 10) (.callf 40 [(.tmp 9)]) none) none :: cmp_Compare_int_o6_2
def cmp_Compare_int_w6 : WC := (.region cmp_Compare_int_o6_0)
def cmp_Compare_int_o9_0 : List WOp := .op (POper.mk (some 11) (.move (.tmp 5)) none) none :: []
def cmp_Compare_int_w9 : WC := (.region cmp_Compare_int_o9_0)
def cmp_Compare_int_o13_0 : List WOp := .op (POper.mk (some 12) (.move (.tmp 6)) none) none :: []
def cmp_Compare_int_w13 : WC := (.region cmp_Compare_int_o13_0)
def cmp_Compare_int_o16_0 : List WOp := .op (POper.mk (some 4) (.move (.const (.int .i64 0))) none) none :: []
def cmp_Compare_int_w16 : WC := (.region cmp_Compare_int_o16_0)
def cmp_Compare_int_w15 : WC := (.seq cmp_Compare_int_w16 .ret)
def cmp_Compare_int_w14 : WC := (.cond (.tmp 12) cmp_Compare_int_w15 .skip)
def cmp_Compare_int_w12 : WC := (.seq cmp_Compare_int_w13 cmp_Compare_int_w14)
def cmp_Compare_int_o20_0 : List WOp := .op (POper.mk (some 4) (.move (.const (.int .i64 (-1)))) none) none :: []
def cmp_Compare_int_w20 : WC := (.region cmp_Compare_int_o20_0)
def cmp_Compare_int_w19 : WC := (.seq cmp_Compare_int_w20 .ret)
def cmp_Compare_int_w11 : WC := (.seq cmp_Compare_int_w12 cmp_Compare_int_w19)
def cmp_Compare_int_w10 : WC := (.cond (.tmp 11) cmp_Compare_int_w11 .skip)
def cmp_Compare_int_w8 : WC := (.seq cmp_Compare_int_w9 cmp_Compare_int_w10)
def cmp_Compare_int_o25_0 : List WOp := .op (POper.mk (some 13) (.move (.tmp 6)) none) none :: []
def cmp_Compare_int_w25 : WC := (.region cmp_Compare_int_o25_0)
def cmp_Compare_int_o28_0 : List WOp := .op (POper.mk (some 4) (.move (.const (.int .i64 1))) none) none :: []
def cmp_Compare_int_w28 : WC := (.region cmp_Compare_int_o28_0)
def cmp_Compare_int_w27 : WC := (.seq cmp_Compare_int_w28 .ret)
def cmp_Compare_int_w26 : WC := (.cond (.tmp 13) cmp_Compare_int_w27 .skip)
def cmp_Compare_int_w24 : WC := (.seq cmp_Compare_int_w25 cmp_Compare_int_w26)
def cmp_Compare_int_o33_0 : List WOp := .op (POper.mk (some 14) (.move (.tmp 0)) none) none :: .op (POper.mk (some 15) (.move (.tmp 1)) none) none :: .op (POper.mk (some 16) (.bin .lss (.tmp 14) (.tmp 15)) none) none :: []
def cmp_Compare_int_w33 : WC := (.region cmp_Compare_int_o33_0)
def cmp_Compare_int_o36_0 : List WOp := .op (POper.mk (some 4) (.move (.const (.int .i64 (-1)))) none) none :: []
def cmp_Compare_int_w36 : WC := (.region cmp_Compare_int_o36_0)
def cmp_Compare_int_w35 : WC := (.seq cmp_Compare_int_w36 .ret)
def cmp_Compare_int_w34 : WC := (.cond (.tmp 16) cmp_Compare_int_w35 .skip)
def cmp_Compare_int_w32 : WC := (.seq cmp_Compare_int_w33 cmp_Compare_int_w34)
def cmp_Compare_int_o41_0 : List WOp := .op (POper.mk (some 17) (.move (.tmp 0)) none) none :: .op (POper.mk (some 18) (.move (.tmp 1)) none) none :: .op (POper.mk (some 19) (.bin .gtr (.tmp 17) (.tmp 18)) none) none :: []
def cmp_Compare_int_w41 : WC := (.region cmp_Compare_int_o41_0)
def cmp_Compare_int_o44_0 : List WOp := .op (POper.mk (some 4) (.move (.const (.int .i64 1))) none) none :: []
def cmp_Compare_int_w44 : WC := (.region cmp_Compare_int_o44_0)
def cmp_Compare_int_w43 : WC := (.seq cmp_Compare_int_w44 .ret)
def cmp_Compare_int_w42 : WC := (.cond (.tmp 19) cmp_Compare_int_w43 .skip)
def cmp_Compare_int_w40 : WC := (.seq cmp_Compare_int_w41 cmp_Compare_int_w42)
def cmp_Compare_int_o48_0 : List WOp := .op (POper.mk (some 4) (.move (.const (.int .i64 0))) none) none :: []
def cmp_Compare_int_w48 : WC := (.region cmp_Compare_int_o48_0)
def cmp_Compare_int_w47 : WC := (.seq cmp_Compare_int_w48 .ret)
def cmp_Compare_int_w39 : WC := (.seq cmp_Compare_int_w40 cmp_Compare_int_w47)
def cmp_Compare_int_w31 : WC := (.seq cmp_Compare_int_w32 cmp_Compare_int_w39)
def cmp_Compare_int_w23 : WC := (.seq cmp_Compare_int_w24 cmp_Compare_int_w31)
def cmp_Compare_int_w7 : WC := (.seq cmp_Compare_int_w8 cmp_Compare_int_w23)
def cmp_Compare_int_w5 : WC := (.seq cmp_Compare_int_w6 cmp_Compare_int_w7)
def cmp_Compare_int_w3 : WC := (.seq cmp_Compare_int_w4 cmp_Compare_int_w5)
def cmp_Compare_int_w1 : WC := (.seq cmp_Compare_int_w2 cmp_Compare_int_w3)
theorem cmp_Compare_int_rc : resolveC Try.prog [] (Try.f38.body.getD .skip) = some (WC.er cmp_Compare_int_w1) := by kernel_rfl
theorem cmp_Compare_int_rr : resolveR Try.prog Try.f38.results.toList = some [(.move (.tmp 4))] := by kernel_rfl
def cmp_Compare_int (x0 : Int) (y1 : Int) (Q : Int → Prop) : Prop := Run Try.prog 0 (FinS Try.prog 0 Try.f38 (cmp_Compare_int_R Q)) [.code cmp_Compare_int_w1] [(.int .i64 x0), (.int .i64 y1), .und, .und, .und, .und, .und, .und, .und, .und, .und, .und, .und, .und, .und, .und, .und, .und, .und, .und] []
def cmp_Compare_int_c1 (x0 : Int) (y1 : Int) (Q : Int → Prop) : Prop := Run Try.prog 0 (FinS Try.prog 0 Try.f38 (cmp_Compare_int_R Q)) [.ops (.op (POper.mk (some 8) (.callf 40 [(.tmp 7)]) none) none :: cmp_Compare_int_o4_2), .code cmp_Compare_int_w5] [(.int .i64 x0), (.int .i64 y1), .dead, .dead, .dead, .dead, .dead, (.int .i64 x0), .dead, .dead, .dead, .dead, .dead, .dead, .dead, .dead, .dead, .dead, .dead, .dead] []
def cmp_Compare_int_c2 (x0 : Int) (y1 : Int) (r2 : Bool) (Q : Int → Prop) : Prop := Run Try.prog 0 (FinS Try.prog 0 Try.f38 (cmp_Compare_int_R Q)) [.ops (.op (POper.mk (some 10) (.callf 40 [(.tmp 9)]) none) none :: cmp_Compare_int_o6_2), .code cmp_Compare_int_w7] [(.int .i64 x0), (.int .i64 y1), .dead, .dead, .dead, (.bool r2), .dead, .dead, .dead, (.int .i64 y1), .dead, .dead, .dead, .dead, .dead, .dead, .dead, .dead, .dead, .dead] []
theorem cmp_Compare_int_step (x0 : Int) (y1 : Int) {Q : Int → Prop} (h :
    cmp_Compare_int_c1 x0 y1 Q) : cmp_Compare_int x0 y1 Q :=
  adv_go 6000 mixed cmp_Compare_int_rr (fa := [.gc]) (by kernel_rfl) h
theorem cmp_Compare_int_c1_step (x0 : Int) (y1 : Int) {Q : Int → Prop} (r2 : Bool) (hc : cmp_isNaN_int x0 (fun x => x = r2)) (h :
    cmp_Compare_int_c2 x0 y1 r2 Q) : cmp_Compare_int_c1 x0 y1 Q :=
  run_callf (tout := (lendOut [] 0 (cmp_isNaN_int_enc r2) (cmp_isNaN_int_obj r2))) (call_typed [] (cmp_isNaN_int_ok x0 r2 hc) (by kernel_rfl) (by kernel_rfl) (by kernel_rfl)) (adv_go 6000 mixed cmp_Compare_int_rr (fa := [.gc]) (by kernel_rfl) h)
theorem cmp_Compare_int_c2_step (x0 : Int) (y1 : Int) (r2 : Bool) {Q : Int → Prop} (r3 : Bool) (hc : cmp_isNaN_int y1 (fun x => x = r3)) (h :
    Br (r2)
      (Br (r3)
        (cmp_Compare_int_ret Q 0)
        (cmp_Compare_int_ret Q (-1)))
      (Br (r3)
        (cmp_Compare_int_ret Q 1)
        (Br (decide (x0 < y1))
          (cmp_Compare_int_ret Q (-1))
          (Br (decide (x0 > y1))
            (cmp_Compare_int_ret Q 1)
            (cmp_Compare_int_ret Q 0))))) : cmp_Compare_int_c2 x0 y1 r2 Q :=
  run_callf (tout := (lendOut [] 0 (cmp_isNaN_int_enc r3) (cmp_isNaN_int_obj r3))) (call_typed [] (cmp_isNaN_int_ok y1 r3 hc) (by kernel_rfl) (by kernel_rfl) (by kernel_rfl)) (adv_go 6000 mixed cmp_Compare_int_rr (fa := [.gc]) (by kernel_rfl) h)
theorem cmp_Compare_int_act (x0 : Int) (y1 : Int) {Q : Int → Prop} (h : cmp_Compare_int x0 y1 Q) : ACT Try.prog 38 [(.int .i64 x0), (.int .i64 y1)] [] (cmp_Compare_int_R Q) :=
  act_go Try.func38 (by rfl) (by kernel_rfl) cmp_Compare_int_rc (n0 := 0) rfl (by kernel_rfl) h
theorem cmp_Compare_int_ok (x0 : Int) (y1 : Int) (r : Int) (h : cmp_Compare_int x0 y1 (fun x => x = r)) : ACT Try.prog 38 [(.int .i64 x0), (.int .i64 y1)] [] (fun tv tL => tv = cmp_Compare_int_enc r ∧ tL = cmp_Compare_int_obj r) := act_det (cmp_Compare_int_act x0 y1 h)

/-! cmp.Or[int] -/
def cmp_Or_int_enc (vals0 : Int) (vals1 : Int) : Int → TV := fun r => (.int .i64 r)
def cmp_Or_int_obj (vals0 : Int) (vals1 : Int) : Int → List TO := fun r => [(.arr [(.int .i64 vals0), (.int .i64 vals1)])]
def cmp_Or_int_R (vals0 : Int) (vals1 : Int) (Q : Int → Prop) : TV → List TO → Prop := RetR (cmp_Or_int_enc vals0 vals1) (cmp_Or_int_obj vals0 vals1) Q
def cmp_Or_int_ret (vals0 : Int) (vals1 : Int) (Q : Int → Prop) (r : Int) : Prop := cmp_Or_int_R vals0 vals1 Q (cmp_Or_int_enc vals0 vals1 r) (cmp_Or_int_obj vals0 vals1 r)
theorem cmp_Or_int_ret.intro {vals0 : Int} {vals1 : Int} {Q : Int → Prop} {r : Int} (h : Q r) : cmp_Or_int_ret vals0 vals1 Q r := RetR.intro h
def cmp_Or_int_o2_0 : List WOp := .op (POper.mk (some 2) (.move (.const (.int .i64 0))) none) none :: []
def cmp_Or_int_w2 : WC := (.region cmp_Or_int_o2_0)
def cmp_Or_int_o4_0 : List WOp := .op (POper.mk (some 3) (.move (.const (.int .i64 0))) none) none :: []
def cmp_Or_int_w4 : WC := (.region cmp_Or_int_o4_0)
def cmp_Or_int_o7_0 : List WOp := .op (POper.mk (some 6) (.move (.tmp 0)) none) none :: .op (POper.mk (some 7) (.len (.tmp 6)) none) none :: .op (POper.mk (some 8) (.move (.const (.int .i64 0))) none) none :: []
def cmp_Or_int_w7 : WC := (.region cmp_Or_int_o7_0)
def cmp_Or_int_o11_0 : List WOp := .op (POper.mk (some 9) (.bin .lss (.tmp 8) (.tmp 7)) none) none :: []
def cmp_Or_int_w11 : WC := (.region cmp_Or_int_o11_0)
def cmp_Or_int_w13 : WC := (.cond (.tmp 9) .skip (.exit 0))
def cmp_Or_int_o19_0 : List WOp := .op (POper.mk (some 10) (.iaddr 1 (.tmp 6) (.tmp 8)) none) none :: .op (POper.mk (some 11) (.load1 (.tmp 10)) none) none :: .op (POper.mk (some 5) (.move (.tmp 11)) none) none :: []
def cmp_Or_int_w19 : WC := (.region cmp_Or_int_o19_0)
def cmp_Or_int_o21_0 : List WOp := .op (POper.mk (some 12) (.move (.tmp 5)) none) none :: .op (POper.mk (some 13) (.move (.tmp 3)) none) none :: .op (POper.mk (some 14) (.bin .neq (.tmp 12) (.tmp 13)) none) none :: []
def cmp_Or_int_w21 : WC := (.region cmp_Or_int_o21_0)
def cmp_Or_int_o24_0 : List WOp := .op (POper.mk (some 15) (.move (.tmp 5)) none) none :: .op (POper.mk (some 2) (.move (.tmp 15)) none) none :: []
def cmp_Or_int_w24 : WC := (.region cmp_Or_int_o24_0)
def cmp_Or_int_w23 : WC := (.seq cmp_Or_int_w24 .ret)
def cmp_Or_int_w22 : WC := (.cond (.tmp 14) cmp_Or_int_w23 .skip)
def cmp_Or_int_w20 : WC := (.seq cmp_Or_int_w21 cmp_Or_int_w22)
def cmp_Or_int_w18 : WC := (.seq cmp_Or_int_w19 cmp_Or_int_w20)
def cmp_Or_int_w17 : WC := (.block 1 cmp_Or_int_w18)
def cmp_Or_int_o27_0 : List WOp := .op (POper.mk (some 16) (.bin .add (.tmp 8) (.const (.int .i64 1))) none) none :: .op (POper.mk (some 8) (.move (.tmp 16)) none) none :: []
def cmp_Or_int_w27 : WC := (.region cmp_Or_int_o27_0)
def cmp_Or_int_w16 : WC := (.seq cmp_Or_int_w17 cmp_Or_int_w27)
def cmp_Or_int_w12 : WC := (.seq cmp_Or_int_w13 cmp_Or_int_w16)
def cmp_Or_int_w10 : WC := (.seq cmp_Or_int_w11 cmp_Or_int_w12)
def cmp_Or_int_w9 : WC := (.uloop cmp_Or_int_w10)
def cmp_Or_int_w8 : WC := (.block 0 cmp_Or_int_w9)
def cmp_Or_int_w6 : WC := (.seq cmp_Or_int_w7 cmp_Or_int_w8)
def cmp_Or_int_o29_0 : List WOp := .op (POper.mk (some 17) (.move (.tmp 3)) none) none :: .op (POper.mk (some 2) (.move (.tmp 17)) none) none :: []
def cmp_Or_int_w29 : WC := (.region cmp_Or_int_o29_0)
def cmp_Or_int_w28 : WC := (.seq cmp_Or_int_w29 .ret)
def cmp_Or_int_w5 : WC := (.seq cmp_Or_int_w6 cmp_Or_int_w28)
def cmp_Or_int_w3 : WC := (.seq cmp_Or_int_w4 cmp_Or_int_w5)
def cmp_Or_int_w1 : WC := (.seq cmp_Or_int_w2 cmp_Or_int_w3)
theorem cmp_Or_int_rc : resolveC Try.prog [] (Try.f37.body.getD .skip) = some (WC.er cmp_Or_int_w1) := by kernel_rfl
theorem cmp_Or_int_rr : resolveR Try.prog Try.f37.results.toList = some [(.move (.tmp 2))] := by kernel_rfl
def cmp_Or_int (vals0 : Int) (vals1 : Int) (Q : Int → Prop) : Prop := Run Try.prog 1 (FinS Try.prog 1 Try.f37 (cmp_Or_int_R vals0 vals1 Q)) [.code cmp_Or_int_w1] [(.ls 0 0 2 1 true), .und, .und, .und, .und, .und, .und, .und, .und, .und, .und, .und, .und, .und, .und, .und, .und, .und] [(.arr [(.int .i64 vals0), (.int .i64 vals1)])]
theorem cmp_Or_int_step (vals0 : Int) (vals1 : Int) {Q : Int → Prop} (h :
    (0 ≤ (0 : Int) ∧ 0 < 2) ∧
    Br (vals0 != 0)
      (cmp_Or_int_ret vals0 vals1 Q vals0)
      ((0 ≤ (1 : Int) ∧ 1 < 2) ∧
      Br (vals1 != 0)
        (cmp_Or_int_ret vals0 vals1 Q vals1)
        (cmp_Or_int_ret vals0 vals1 Q 0))) : cmp_Or_int vals0 vals1 Q :=
  adv_go 6000 mixed cmp_Or_int_rr (fa := [.gc]) (by kernel_rfl) h
theorem cmp_Or_int_act (vals0 : Int) (vals1 : Int) {Q : Int → Prop} (h : cmp_Or_int vals0 vals1 Q) : ACT Try.prog 37 [(.ls 0 0 2 1 true)] [(.arr [(.int .i64 vals0), (.int .i64 vals1)])] (cmp_Or_int_R vals0 vals1 Q) :=
  act_go Try.func37 (by rfl) (by kernel_rfl) cmp_Or_int_rc (n0 := 1) rfl (by kernel_rfl) h
theorem cmp_Or_int_ok (vals0 : Int) (vals1 : Int) (r : Int) (h : cmp_Or_int vals0 vals1 (fun x => x = r)) : ACT Try.prog 37 [(.ls 0 0 2 1 true)] [(.arr [(.int .i64 vals0), (.int .i64 vals1)])] (fun tv tL => tv = cmp_Or_int_enc vals0 vals1 r ∧ tL = cmp_Or_int_obj vals0 vals1 r) := act_det (cmp_Or_int_act vals0 vals1 h)

/-! drover/view.Choose$1 -/
def view_Choose_f1_enc  : Bool → TV := fun r => (.bool r)
def view_Choose_f1_obj  : Bool → List TO := fun r => []
def view_Choose_f1_R  (Q : Bool → Prop) : TV → List TO → Prop := RetR (view_Choose_f1_enc) (view_Choose_f1_obj) Q
def view_Choose_f1_ret  (Q : Bool → Prop) (r : Bool) : Prop := view_Choose_f1_R Q (view_Choose_f1_enc r) (view_Choose_f1_obj r)
theorem view_Choose_f1_ret.intro  {Q : Bool → Prop} {r : Bool} (h : Q r) : view_Choose_f1_ret Q r := RetR.intro h
def view_Choose_f1_o2_0 : List WOp := .op (POper.mk (some 2) (.box 34 (.tmp 0)) none) none :: .op (POper.mk (some 3) (.box 34 (.tmp 1)) none) none :: .op (POper.mk (some 4) (.move (.const (.bool false))) none) none :: []
def view_Choose_f1_w2 : WC := (.region view_Choose_f1_o2_0)
def view_Choose_f1_o4_14 : List WOp := .op (POper.mk (some 19) (.bin .gtr (.tmp 18) (.const (.int .i64 0))) none) none :: .op (POper.mk (some 4) (.move (.tmp 19)) none) none :: []
def view_Choose_f1_o4_12 : List WOp := .op (POper.mk (some 17) (.bslice 1 2 [(.d (.int .i64 0)), (.d (.int .i64 0))] [(0, (1, (.tmp 9))), (1, (1, (.tmp 16)))]) none) none :: .op (POper.mk (some 18) (.callf 37 [(.tmp 17)]) none) none :: view_Choose_f1_o4_14
def view_Choose_f1_o4_5 : List WOp := .op (POper.mk (some 10) (.faddr 32 (.tmp 2)) none) none :: .op (POper.mk (some 11) (.load1 (.tmp 10)) none) none :: .op (POper.mk (some 12) (.len (.tmp 11)) none) none :: .op (POper.mk (some 13) (.faddr 32 (.tmp 3)) none) none :: .op (POper.mk (some 14) (.load1 (.tmp 13)) none) none :: .op (POper.mk (some 15) (.len (.tmp 14)) none) none :: .op (POper.mk (some 16) (.callf 38 [(.tmp 12), (.tmp 15)]) none) none :: view_Choose_f1_o4_12
def view_Choose_f1_o4_0 : List WOp := .op (POper.mk (some 5) (.faddr 4 (.tmp 2)) none) none :: .op (POper.mk (some 6) (.load1 (.tmp 5)) none) none :: .op (POper.mk (some 7) (.faddr 4 (.tmp 3)) none) none :: .op (POper.mk (some 8) (.load1 (.tmp 7)) none) none :: .op (POper.mk (some 9) (.callf 38 [(.tmp 6), (.tmp 8)]) none) none :: view_Choose_f1_o4_5
def view_Choose_f1_e4 : List (List Nat) := [[], [0], [], [2], [1, 0, 3, 2], [], [5], [6, 5], [], [8], [9, 8], [7, 6, 5, 10, 9, 8, 4, 1, 0, 3, 2], [4, 1, 0, 3, 2, 11, 7, 6, 5, 10, 9, 8], [12, 4, 1, 0, 3, 2, 11, 7, 6, 5, 10, 9, 8], [13, 12, 4, 1, 0, 3, 2, 11, 7, 6, 5, 10, 9, 8], [14, 13, 12, 4, 1, 0, 3, 2, 11, 7, 6, 5, 10, 9, 8]]
def view_Choose_f1_w4 : WC := (.dregion view_Choose_f1_o4_0 view_Choose_f1_e4)
def view_Choose_f1_w3 : WC := (.seq view_Choose_f1_w4 .ret)
def view_Choose_f1_w1 : WC := (.seq view_Choose_f1_w2 view_Choose_f1_w3)
theorem view_Choose_f1_rc : resolveC Try.prog [] (Try.f36.body.getD .skip) = some (WC.er view_Choose_f1_w1) := by kernel_rfl
theorem view_Choose_f1_rr : resolveR Try.prog Try.f36.results.toList = some [(.move (.tmp 4))] := by kernel_rfl
def view_Choose_f1 (a0 : eR0.T) (b1 : eR0.T) (Q : Bool → Prop) : Prop := Run Try.prog 0 (FinS Try.prog 0 Try.f36 (view_Choose_f1_R Q)) [.code view_Choose_f1_w1] [(.agg [(.int .i64 a0.1), (.int .i64 a0.2.1), (.int .i64 a0.2.2.1), (.int .i64 a0.2.2.2.1), (.int .i64 a0.2.2.2.2.1), (.int .i64 a0.2.2.2.2.2.1), (.int .i64 a0.2.2.2.2.2.2.1), (.int .i64 a0.2.2.2.2.2.2.2.1), (.int .i64 a0.2.2.2.2.2.2.2.2.1), (.bool a0.2.2.2.2.2.2.2.2.2.1), (.bool a0.2.2.2.2.2.2.2.2.2.2.1), (.bool a0.2.2.2.2.2.2.2.2.2.2.2.1), (.int .i64 a0.2.2.2.2.2.2.2.2.2.2.2.2.1), (.int .i64 a0.2.2.2.2.2.2.2.2.2.2.2.2.2.1), (.int .i64 a0.2.2.2.2.2.2.2.2.2.2.2.2.2.2.1), (.str a0.2.2.2.2.2.2.2.2.2.2.2.2.2.2.2.1), (.sl eR1 a0.2.2.2.2.2.2.2.2.2.2.2.2.2.2.2.2.1), (.int .i64 a0.2.2.2.2.2.2.2.2.2.2.2.2.2.2.2.2.2.1), (.int .i64 a0.2.2.2.2.2.2.2.2.2.2.2.2.2.2.2.2.2.2.1), (.int .i64 a0.2.2.2.2.2.2.2.2.2.2.2.2.2.2.2.2.2.2.2.1), (.bool a0.2.2.2.2.2.2.2.2.2.2.2.2.2.2.2.2.2.2.2.2.1), (.bool a0.2.2.2.2.2.2.2.2.2.2.2.2.2.2.2.2.2.2.2.2.2.1), (.int .i64 a0.2.2.2.2.2.2.2.2.2.2.2.2.2.2.2.2.2.2.2.2.2.2.1), (.int .i64 a0.2.2.2.2.2.2.2.2.2.2.2.2.2.2.2.2.2.2.2.2.2.2.2.1), (.int .i64 a0.2.2.2.2.2.2.2.2.2.2.2.2.2.2.2.2.2.2.2.2.2.2.2.2.1), (.int .i64 a0.2.2.2.2.2.2.2.2.2.2.2.2.2.2.2.2.2.2.2.2.2.2.2.2.2.1), (.int .i64 a0.2.2.2.2.2.2.2.2.2.2.2.2.2.2.2.2.2.2.2.2.2.2.2.2.2.2.1), (.int .i64 a0.2.2.2.2.2.2.2.2.2.2.2.2.2.2.2.2.2.2.2.2.2.2.2.2.2.2.2.1), (.int .i64 a0.2.2.2.2.2.2.2.2.2.2.2.2.2.2.2.2.2.2.2.2.2.2.2.2.2.2.2.2.1), (.int .i64 a0.2.2.2.2.2.2.2.2.2.2.2.2.2.2.2.2.2.2.2.2.2.2.2.2.2.2.2.2.2.1), (.int .i64 a0.2.2.2.2.2.2.2.2.2.2.2.2.2.2.2.2.2.2.2.2.2.2.2.2.2.2.2.2.2.2.1), (.bool a0.2.2.2.2.2.2.2.2.2.2.2.2.2.2.2.2.2.2.2.2.2.2.2.2.2.2.2.2.2.2.2.1), (.sl eR2 a0.2.2.2.2.2.2.2.2.2.2.2.2.2.2.2.2.2.2.2.2.2.2.2.2.2.2.2.2.2.2.2.2.1), (.sl eI64 a0.2.2.2.2.2.2.2.2.2.2.2.2.2.2.2.2.2.2.2.2.2.2.2.2.2.2.2.2.2.2.2.2.2)]), (.agg [(.int .i64 b1.1), (.int .i64 b1.2.1), (.int .i64 b1.2.2.1), (.int .i64 b1.2.2.2.1), (.int .i64 b1.2.2.2.2.1), (.int .i64 b1.2.2.2.2.2.1), (.int .i64 b1.2.2.2.2.2.2.1), (.int .i64 b1.2.2.2.2.2.2.2.1), (.int .i64 b1.2.2.2.2.2.2.2.2.1), (.bool b1.2.2.2.2.2.2.2.2.2.1), (.bool b1.2.2.2.2.2.2.2.2.2.2.1), (.bool b1.2.2.2.2.2.2.2.2.2.2.2.1), (.int .i64 b1.2.2.2.2.2.2.2.2.2.2.2.2.1), (.int .i64 b1.2.2.2.2.2.2.2.2.2.2.2.2.2.1), (.int .i64 b1.2.2.2.2.2.2.2.2.2.2.2.2.2.2.1), (.str b1.2.2.2.2.2.2.2.2.2.2.2.2.2.2.2.1), (.sl eR1 b1.2.2.2.2.2.2.2.2.2.2.2.2.2.2.2.2.1), (.int .i64 b1.2.2.2.2.2.2.2.2.2.2.2.2.2.2.2.2.2.1), (.int .i64 b1.2.2.2.2.2.2.2.2.2.2.2.2.2.2.2.2.2.2.1), (.int .i64 b1.2.2.2.2.2.2.2.2.2.2.2.2.2.2.2.2.2.2.2.1), (.bool b1.2.2.2.2.2.2.2.2.2.2.2.2.2.2.2.2.2.2.2.2.1), (.bool b1.2.2.2.2.2.2.2.2.2.2.2.2.2.2.2.2.2.2.2.2.2.1), (.int .i64 b1.2.2.2.2.2.2.2.2.2.2.2.2.2.2.2.2.2.2.2.2.2.2.1), (.int .i64 b1.2.2.2.2.2.2.2.2.2.2.2.2.2.2.2.2.2.2.2.2.2.2.2.1), (.int .i64 b1.2.2.2.2.2.2.2.2.2.2.2.2.2.2.2.2.2.2.2.2.2.2.2.2.1), (.int .i64 b1.2.2.2.2.2.2.2.2.2.2.2.2.2.2.2.2.2.2.2.2.2.2.2.2.2.1), (.int .i64 b1.2.2.2.2.2.2.2.2.2.2.2.2.2.2.2.2.2.2.2.2.2.2.2.2.2.2.1), (.int .i64 b1.2.2.2.2.2.2.2.2.2.2.2.2.2.2.2.2.2.2.2.2.2.2.2.2.2.2.2.1), (.int .i64 b1.2.2.2.2.2.2.2.2.2.2.2.2.2.2.2.2.2.2.2.2.2.2.2.2.2.2.2.2.1), (.int .i64 b1.2.2.2.2.2.2.2.2.2.2.2.2.2.2.2.2.2.2.2.2.2.2.2.2.2.2.2.2.2.1), (.int .i64 b1.2.2.2.2.2.2.2.2.2.2.2.2.2.2.2.2.2.2.2.2.2.2.2.2.2.2.2.2.2.2.1), (.bool b1.2.2.2.2.2.2.2.2.2.2.2.2.2.2.2.2.2.2.2.2.2.2.2.2.2.2.2.2.2.2.2.1), (.sl eR2 b1.2.2.2.2.2.2.2.2.2.2.2.2.2.2.2.2.2.2.2.2.2.2.2.2.2.2.2.2.2.2.2.2.1), (.sl eI64 b1.2.2.2.2.2.2.2.2.2.2.2.2.2.2.2.2.2.2.2.2.2.2.2.2.2.2.2.2.2.2.2.2.2)]), .und, .und, .und, .und, .und, .und, .und, .und, .und, .und, .und, .und, .und, .und, .und, .und, .und, .und] []
def view_Choose_f1_c1 (a0 : eR0.T) (b1 : eR0.T) (Q : Bool → Prop) : Prop := Run Try.prog 0 (FinS Try.prog 0 Try.f36 (view_Choose_f1_R Q)) [.dops (.op (POper.mk (some 9) (.callf 38 [(.tmp 6), (.tmp 8)]) none) none :: view_Choose_f1_o4_5) view_Choose_f1_e4 [([], []), ([], [0]), ([], []), ([], [1])], .code .ret] [(.agg [(.int .i64 a0.1), (.int .i64 a0.2.1), (.int .i64 a0.2.2.1), (.int .i64 a0.2.2.2.1), (.int .i64 a0.2.2.2.2.1), (.int .i64 a0.2.2.2.2.2.1), (.int .i64 a0.2.2.2.2.2.2.1), (.int .i64 a0.2.2.2.2.2.2.2.1), (.int .i64 a0.2.2.2.2.2.2.2.2.1), (.bool a0.2.2.2.2.2.2.2.2.2.1), (.bool a0.2.2.2.2.2.2.2.2.2.2.1), (.bool a0.2.2.2.2.2.2.2.2.2.2.2.1), (.int .i64 a0.2.2.2.2.2.2.2.2.2.2.2.2.1), (.int .i64 a0.2.2.2.2.2.2.2.2.2.2.2.2.2.1), (.int .i64 a0.2.2.2.2.2.2.2.2.2.2.2.2.2.2.1), (.str a0.2.2.2.2.2.2.2.2.2.2.2.2.2.2.2.1), (.sl eR1 a0.2.2.2.2.2.2.2.2.2.2.2.2.2.2.2.2.1), (.int .i64 a0.2.2.2.2.2.2.2.2.2.2.2.2.2.2.2.2.2.1), (.int .i64 a0.2.2.2.2.2.2.2.2.2.2.2.2.2.2.2.2.2.2.1), (.int .i64 a0.2.2.2.2.2.2.2.2.2.2.2.2.2.2.2.2.2.2.2.1), (.bool a0.2.2.2.2.2.2.2.2.2.2.2.2.2.2.2.2.2.2.2.2.1), (.bool a0.2.2.2.2.2.2.2.2.2.2.2.2.2.2.2.2.2.2.2.2.2.1), (.int .i64 a0.2.2.2.2.2.2.2.2.2.2.2.2.2.2.2.2.2.2.2.2.2.2.1), (.int .i64 a0.2.2.2.2.2.2.2.2.2.2.2.2.2.2.2.2.2.2.2.2.2.2.2.1), (.int .i64 a0.2.2.2.2.2.2.2.2.2.2.2.2.2.2.2.2.2.2.2.2.2.2.2.2.1), (.int .i64 a0.2.2.2.2.2.2.2.2.2.2.2.2.2.2.2.2.2.2.2.2.2.2.2.2.2.1), (.int .i64 a0.2.2.2.2.2.2.2.2.2.2.2.2.2.2.2.2.2.2.2.2.2.2.2.2.2.2.1), (.int .i64 a0.2.2.2.2.2.2.2.2.2.2.2.2.2.2.2.2.2.2.2.2.2.2.2.2.2.2.2.1), (.int .i64 a0.2.2.2.2.2.2.2.2.2.2.2.2.2.2.2.2.2.2.2.2.2.2.2.2.2.2.2.2.1), (.int .i64 a0.2.2.2.2.2.2.2.2.2.2.2.2.2.2.2.2.2.2.2.2.2.2.2.2.2.2.2.2.2.1), (.int .i64 a0.2.2.2.2.2.2.2.2.2.2.2.2.2.2.2.2.2.2.2.2.2.2.2.2.2.2.2.2.2.2.1), (.bool a0.2.2.2.2.2.2.2.2.2.2.2.2.2.2.2.2.2.2.2.2.2.2.2.2.2.2.2.2.2.2.2.1), (.sl eR2 a0.2.2.2.2.2.2.2.2.2.2.2.2.2.2.2.2.2.2.2.2.2.2.2.2.2.2.2.2.2.2.2.2.1), (.sl eI64 a0.2.2.2.2.2.2.2.2.2.2.2.2.2.2.2.2.2.2.2.2.2.2.2.2.2.2.2.2.2.2.2.2.2)]), (.agg [(.int .i64 b1.1), (.int .i64 b1.2.1), (.int .i64 b1.2.2.1), (.int .i64 b1.2.2.2.1), (.int .i64 b1.2.2.2.2.1), (.int .i64 b1.2.2.2.2.2.1), (.int .i64 b1.2.2.2.2.2.2.1), (.int .i64 b1.2.2.2.2.2.2.2.1), (.int .i64 b1.2.2.2.2.2.2.2.2.1), (.bool b1.2.2.2.2.2.2.2.2.2.1), (.bool b1.2.2.2.2.2.2.2.2.2.2.1), (.bool b1.2.2.2.2.2.2.2.2.2.2.2.1), (.int .i64 b1.2.2.2.2.2.2.2.2.2.2.2.2.1), (.int .i64 b1.2.2.2.2.2.2.2.2.2.2.2.2.2.1), (.int .i64 b1.2.2.2.2.2.2.2.2.2.2.2.2.2.2.1), (.str b1.2.2.2.2.2.2.2.2.2.2.2.2.2.2.2.1), (.sl eR1 b1.2.2.2.2.2.2.2.2.2.2.2.2.2.2.2.2.1), (.int .i64 b1.2.2.2.2.2.2.2.2.2.2.2.2.2.2.2.2.2.1), (.int .i64 b1.2.2.2.2.2.2.2.2.2.2.2.2.2.2.2.2.2.2.1), (.int .i64 b1.2.2.2.2.2.2.2.2.2.2.2.2.2.2.2.2.2.2.2.1), (.bool b1.2.2.2.2.2.2.2.2.2.2.2.2.2.2.2.2.2.2.2.2.1), (.bool b1.2.2.2.2.2.2.2.2.2.2.2.2.2.2.2.2.2.2.2.2.2.1), (.int .i64 b1.2.2.2.2.2.2.2.2.2.2.2.2.2.2.2.2.2.2.2.2.2.2.1), (.int .i64 b1.2.2.2.2.2.2.2.2.2.2.2.2.2.2.2.2.2.2.2.2.2.2.2.1), (.int .i64 b1.2.2.2.2.2.2.2.2.2.2.2.2.2.2.2.2.2.2.2.2.2.2.2.2.1), (.int .i64 b1.2.2.2.2.2.2.2.2.2.2.2.2.2.2.2.2.2.2.2.2.2.2.2.2.2.1), (.int .i64 b1.2.2.2.2.2.2.2.2.2.2.2.2.2.2.2.2.2.2.2.2.2.2.2.2.2.2.1), (.int .i64 b1.2.2.2.2.2.2.2.2.2.2.2.2.2.2.2.2.2.2.2.2.2.2.2.2.2.2.2.1), (.int .i64 b1.2.2.2.2.2.2.2.2.2.2.2.2.2.2.2.2.2.2.2.2.2.2.2.2.2.2.2.2.1), (.int .i64 b1.2.2.2.2.2.2.2.2.2.2.2.2.2.2.2.2.2.2.2.2.2.2.2.2.2.2.2.2.2.1), (.int .i64 b1.2.2.2.2.2.2.2.2.2.2.2.2.2.2.2.2.2.2.2.2.2.2.2.2.2.2.2.2.2.2.1), (.bool b1.2.2.2.2.2.2.2.2.2.2.2.2.2.2.2.2.2.2.2.2.2.2.2.2.2.2.2.2.2.2.2.1), (.sl eR2 b1.2.2.2.2.2.2.2.2.2.2.2.2.2.2.2.2.2.2.2.2.2.2.2.2.2.2.2.2.2.2.2.2.1), (.sl eI64 b1.2.2.2.2.2.2.2.2.2.2.2.2.2.2.2.2.2.2.2.2.2.2.2.2.2.2.2.2.2.2.2.2.2)]), (.ptr 0 0), (.ptr 1 0), (.bool false), (.ptr 0 4), (.int .i64 a0.2.2.2.2.1), (.ptr 1 4), (.int .i64 b1.2.2.2.2.1), .und, .und, .und, .und, .und, .und, .und, .und, .und, .und, .und] [(.arr [(.int .i64 a0.1), (.int .i64 a0.2.1), (.int .i64 a0.2.2.1), (.int .i64 a0.2.2.2.1), (.int .i64 a0.2.2.2.2.1), (.int .i64 a0.2.2.2.2.2.1), (.int .i64 a0.2.2.2.2.2.2.1), (.int .i64 a0.2.2.2.2.2.2.2.1), (.int .i64 a0.2.2.2.2.2.2.2.2.1), (.bool a0.2.2.2.2.2.2.2.2.2.1), (.bool a0.2.2.2.2.2.2.2.2.2.2.1), (.bool a0.2.2.2.2.2.2.2.2.2.2.2.1), (.int .i64 a0.2.2.2.2.2.2.2.2.2.2.2.2.1), (.int .i64 a0.2.2.2.2.2.2.2.2.2.2.2.2.2.1), (.int .i64 a0.2.2.2.2.2.2.2.2.2.2.2.2.2.2.1), (.str a0.2.2.2.2.2.2.2.2.2.2.2.2.2.2.2.1), (.sl eR1 a0.2.2.2.2.2.2.2.2.2.2.2.2.2.2.2.2.1), (.int .i64 a0.2.2.2.2.2.2.2.2.2.2.2.2.2.2.2.2.2.1), (.int .i64 a0.2.2.2.2.2.2.2.2.2.2.2.2.2.2.2.2.2.2.1), (.int .i64 a0.2.2.2.2.2.2.2.2.2.2.2.2.2.2.2.2.2.2.2.1), (.bool a0.2.2.2.2.2.2.2.2.2.2.2.2.2.2.2.2.2.2.2.2.1), (.bool a0.2.2.2.2.2.2.2.2.2.2.2.2.2.2.2.2.2.2.2.2.2.1), (.int .i64 a0.2.2.2.2.2.2.2.2.2.2.2.2.2.2.2.2.2.2.2.2.2.2.1), (.int .i64 a0.2.2.2.2.2.2.2.2.2.2.2.2.2.2.2.2.2.2.2.2.2.2.2.1), (.int .i64 a0.2.2.2.2.2.2.2.2.2.2.2.2.2.2.2.2.2.2.2.2.2.2.2.2.1), (.int .i64 a0.2.2.2.2.2.2.2.2.2.2.2.2.2.2.2.2.2.2.2.2.2.2.2.2.2.1), (.int .i64 a0.2.2.2.2.2.2.2.2.2.2.2.2.2.2.2.2.2.2.2.2.2.2.2.2.2.2.1), (.int .i64 a0.2.2.2.2.2.2.2.2.2.2.2.2.2.2.2.2.2.2.2.2.2.2.2.2.2.2.2.1), (.int .i64 a0.2.2.2.2.2.2.2.2.2.2.2.2.2.2.2.2.2.2.2.2.2.2.2.2.2.2.2.2.1), (.int .i64 a0.2.2.2.2.2.2.2.2.2.2.2.2.2.2.2.2.2.2.2.2.2.2.2.2.2.2.2.2.2.1), (.int .i64 a0.2.2.2.2.2.2.2.2.2.2.2.2.2.2.2.2.2.2.2.2.2.2.2.2.2.2.2.2.2.2.1), (.bool a0.2.2.2.2.2.2.2.2.2.2.2.2.2.2.2.2.2.2.2.2.2.2.2.2.2.2.2.2.2.2.2.1), (.sl eR2 a0.2.2.2.2.2.2.2.2.2.2.2.2.2.2.2.2.2.2.2.2.2.2.2.2.2.2.2.2.2.2.2.2.1), (.sl eI64 a0.2.2.2.2.2.2.2.2.2.2.2.2.2.2.2.2.2.2.2.2.2.2.2.2.2.2.2.2.2.2.2.2.2)]), (.arr [(.int .i64 b1.1), (.int .i64 b1.2.1), (.int .i64 b1.2.2.1), (.int .i64 b1.2.2.2.1), (.int .i64 b1.2.2.2.2.1), (.int .i64 b1.2.2.2.2.2.1), (.int .i64 b1.2.2.2.2.2.2.1), (.int .i64 b1.2.2.2.2.2.2.2.1), (.int .i64 b1.2.2.2.2.2.2.2.2.1), (.bool b1.2.2.2.2.2.2.2.2.2.1), (.bool b1.2.2.2.2.2.2.2.2.2.2.1), (.bool b1.2.2.2.2.2.2.2.2.2.2.2.1), (.int .i64 b1.2.2.2.2.2.2.2.2.2.2.2.2.1), (.int .i64 b1.2.2.2.2.2.2.2.2.2.2.2.2.2.1), (.int .i64 b1.2.2.2.2.2.2.2.2.2.2.2.2.2.2.1), (.str b1.2.2.2.2.2.2.2.2.2.2.2.2.2.2.2.1), (.sl eR1 b1.2.2.2.2.2.2.2.2.2.2.2.2.2.2.2.2.1), (.int .i64 b1.2.2.2.2.2.2.2.2.2.2.2.2.2.2.2.2.2.1), (.int .i64 b1.2.2.2.2.2.2.2.2.2.2.2.2.2.2.2.2.2.2.1), (.int .i64 b1.2.2.2.2.2.2.2.2.2.2.2.2.2.2.2.2.2.2.2.1), (.bool b1.2.2.2.2.2.2.2.2.2.2.2.2.2.2.2.2.2.2.2.2.1), (.bool b1.2.2.2.2.2.2.2.2.2.2.2.2.2.2.2.2.2.2.2.2.2.1), (.int .i64 b1.2.2.2.2.2.2.2.2.2.2.2.2.2.2.2.2.2.2.2.2.2.2.1), (.int .i64 b1.2.2.2.2.2.2.2.2.2.2.2.2.2.2.2.2.2.2.2.2.2.2.2.1), (.int .i64 b1.2.2.2.2.2.2.2.2.2.2.2.2.2.2.2.2.2.2.2.2.2.2.2.2.1), (.int .i64 b1.2.2.2.2.2.2.2.2.2.2.2.2.2.2.2.2.2.2.2.2.2.2.2.2.2.1), (.int .i64 b1.2.2.2.2.2.2.2.2.2.2.2.2.2.2.2.2.2.2.2.2.2.2.2.2.2.2.1), (.int .i64 b1.2.2.2.2.2.2.2.2.2.2.2.2.2.2.2.2.2.2.2.2.2.2.2.2.2.2.2.1), (.int .i64 b1.2.2.2.2.2.2.2.2.2.2.2.2.2.2.2.2.2.2.2.2.2.2.2.2.2.2.2.2.1), (.int .i64 b1.2.2.2.2.2.2.2.2.2.2.2.2.2.2.2.2.2.2.2.2.2.2.2.2.2.2.2.2.2.1), (.int .i64 b1.2.2.2.2.2.2.2.2.2.2.2.2.2.2.2.2.2.2.2.2.2.2.2.2.2.2.2.2.2.2.1), (.bool b1.2.2.2.2.2.2.2.2.2.2.2.2.2.2.2.2.2.2.2.2.2.2.2.2.2.2.2.2.2.2.2.1), (.sl eR2 b1.2.2.2.2.2.2.2.2.2.2.2.2.2.2.2.2.2.2.2.2.2.2.2.2.2.2.2.2.2.2.2.2.1), (.sl eI64 b1.2.2.2.2.2.2.2.2.2.2.2.2.2.2.2.2.2.2.2.2.2.2.2.2.2.2.2.2.2.2.2.2.2)])]
def view_Choose_f1_c2 (a0 : eR0.T) (b1 : eR0.T) (r2 : Int) (Q : Bool → Prop) : Prop := Run Try.prog 0 (FinS Try.prog 0 Try.f36 (view_Choose_f1_R Q)) [.dops (.op (POper.mk (some 16) (.callf 38 [(.tmp 12), (.tmp 15)]) none) none :: view_Choose_f1_o4_12) view_Choose_f1_e4 [([], []), ([], [0]), ([], []), ([], [1]), ([], []), ([], []), ([], [0]), ([], []), ([], []), ([], [1]), ([], [])], .code .ret] [(.agg [(.int .i64 a0.1), (.int .i64 a0.2.1), (.int .i64 a0.2.2.1), (.int .i64 a0.2.2.2.1), (.int .i64 a0.2.2.2.2.1), (.int .i64 a0.2.2.2.2.2.1), (.int .i64 a0.2.2.2.2.2.2.1), (.int .i64 a0.2.2.2.2.2.2.2.1), (.int .i64 a0.2.2.2.2.2.2.2.2.1), (.bool a0.2.2.2.2.2.2.2.2.2.1), (.bool a0.2.2.2.2.2.2.2.2.2.2.1), (.bool a0.2.2.2.2.2.2.2.2.2.2.2.1), (.int .i64 a0.2.2.2.2.2.2.2.2.2.2.2.2.1), (.int .i64 a0.2.2.2.2.2.2.2.2.2.2.2.2.2.1), (.int .i64 a0.2.2.2.2.2.2.2.2.2.2.2.2.2.2.1), (.str a0.2.2.2.2.2.2.2.2.2.2.2.2.2.2.2.1), (.sl eR1 a0.2.2.2.2.2.2.2.2.2.2.2.2.2.2.2.2.1), (.int .i64 a0.2.2.2.2.2.2.2.2.2.2.2.2.2.2.2.2.2.1), (.int .i64 a0.2.2.2.2.2.2.2.2.2.2.2.2.2.2.2.2.2.2.1), (.int .i64 a0.2.2.2.2.2.2.2.2.2.2.2.2.2.2.2.2.2.2.2.1), (.bool a0.2.2.2.2.2.2.2.2.2.2.2.2.2.2.2.2.2.2.2.2.1), (.bool a0.2.2.2.2.2.2.2.2.2.2.2.2.2.2.2.2.2.2.2.2.2.1), (.int .i64 a0.2.2.2.2.2.2.2.2.2.2.2.2.2.2.2.2.2.2.2.2.2.2.1), (.int .i64 a0.2.2.2.2.2.2.2.2.2.2.2.2.2.2.2.2.2.2.2.2.2.2.2.1), (.int .i64 a0.2.2.2.2.2.2.2.2.2.2.2.2.2.2.2.2.2.2.2.2.2.2.2.2.1), (.int .i64 a0.2.2.2.2.2.2.2.2.2.2.2.2.2.2.2.2.2.2.2.2.2.2.2.2.2.1), (.int .i64 a0.2.2.2.2.2.2.2.2.2.2.2.2.2.2.2.2.2.2.2.2.2.2.2.2.2.2.1), (.int .i64 a0.2.2.2.2.2.2.2.2.2.2.2.2.2.2.2.2.2.2.2.2.2.2.2.2.2.2.2.1), (.int .i64 a0.2.2.2.2.2.2.2.2.2.2.2.2.2.2.2.2.2.2.2.2.2.2.2.2.2.2.2.2.1), (.int .i64 a0.2.2.2.2.2.2.2.2.2.2.2.2.2.2.2.2.2.2.2.2.2.2.2.2.2.2.2.2.2.1), (.int .i64 a0.2.2.2.2.2.2.2.2.2.2.2.2.2.2.2.2.2.2.2.2.2.2.2.2.2.2.2.2.2.2.1), (.bool a0.2.2.2.2.2.2.2.2.2.2.2.2.2.2.2.2.2.2.2.2.2.2.2.2.2.2.2.2.2.2.2.1), (.sl eR2 a0.2.2.2.2.2.2.2.2.2.2.2.2.2.2.2.2.2.2.2.2.2.2.2.2.2.2.2.2.2.2.2.2.1), (.sl eI64 a0.2.2.2.2.2.2.2.2.2.2.2.2.2.2.2.2.2.2.2.2.2.2.2.2.2.2.2.2.2.2.2.2.2)]), (.agg [(.int .i64 b1.1), (.int .i64 b1.2.1), (.int .i64 b1.2.2.1), (.int .i64 b1.2.2.2.1), (.int .i64 b1.2.2.2.2.1), (.int .i64 b1.2.2.2.2.2.1), (.int .i64 b1.2.2.2.2.2.2.1), (.int .i64 b1.2.2.2.2.2.2.2.1), (.int .i64 b1.2.2.2.2.2.2.2.2.1), (.bool b1.2.2.2.2.2.2.2.2.2.1), (.bool b1.2.2.2.2.2.2.2.2.2.2.1), (.bool b1.2.2.2.2.2.2.2.2.2.2.2.1), (.int .i64 b1.2.2.2.2.2.2.2.2.2.2.2.2.1), (.int .i64 b1.2.2.2.2.2.2.2.2.2.2.2.2.2.1), (.int .i64 b1.2.2.2.2.2.2.2.2.2.2.2.2.2.2.1), (.str b1.2.2.2.2.2.2.2.2.2.2.2.2.2.2.2.1), (.sl eR1 b1.2.2.2.2.2.2.2.2.2.2.2.2.2.2.2.2.1), (.int .i64 b1.2.2.2.2.2.2.2.2.2.2.2.2.2.2.2.2.2.1), (.int .i64 b1.2.2.2.2.2.2.2.2.2.2.2.2.2.2.2.2.2.2.1), (.int .i64 b1.2.2.2.2.2.2.2.2.2.2.2.2.2.2.2.2.2.2.2.1), (.bool b1.2.2.2.2.2.2.2.2.2.2.2.2.2.2.2.2.2.2.2.2.1), (.bool b1.2.2.2.2.2.2.2.2.2.2.2.2.2.2.2.2.2.2.2.2.2.1), (.int .i64 b1.2.2.2.2.2.2.2.2.2.2.2.2.2.2.2.2.2.2.2.2.2.2.1), (.int .i64 b1.2.2.2.2.2.2.2.2.2.2.2.2.2.2.2.2.2.2.2.2.2.2.2.1), (.int .i64 b1.2.2.2.2.2.2.2.2.2.2.2.2.2.2.2.2.2.2.2.2.2.2.2.2.1), (.int .i64 b1.2.2.2.2.2.2.2.2.2.2.2.2.2.2.2.2.2.2.2.2.2.2.2.2.2.1), (.int .i64 b1.2.2.2.2.2.2.2.2.2.2.2.2.2.2.2.2.2.2.2.2.2.2.2.2.2.2.1), (.int .i64 b1.2.2.2.2.2.2.2.2.2.2.2.2.2.2.2.2.2.2.2.2.2.2.2.2.2.2.2.1), (.int .i64 b1.2.2.2.2.2.2.2.2.2.2.2.2.2.2.2.2.2.2.2.2.2.2.2.2.2.2.2.2.1), (.int .i64 b1.2.2.2.2.2.2.2.2.2.2.2.2.2.2.2.2.2.2.2.2.2.2.2.2.2.2.2.2.2.1), (.int .i64 b1.2.2.2.2.2.2.2.2.2.2.2.2.2.2.2.2.2.2.2.2.2.2.2.2.2.2.2.2.2.2.1), (.bool b1.2.2.2.2.2.2.2.2.2.2.2.2.2.2.2.2.2.2.2.2.2.2.2.2.2.2.2.2.2.2.2.1), (.sl eR2 b1.2.2.2.2.2.2.2.2.2.2.2.2.2.2.2.2.2.2.2.2.2.2.2.2.2.2.2.2.2.2.2.2.1), (.sl eI64 b1.2.2.2.2.2.2.2.2.2.2.2.2.2.2.2.2.2.2.2.2.2.2.2.2.2.2.2.2.2.2.2.2.2)]), (.ptr 0 0), (.ptr 1 0), (.bool false), (.ptr 0 4), (.int .i64 a0.2.2.2.2.1), (.ptr 1 4), (.int .i64 b1.2.2.2.2.1), (.int .i64 r2), (.ptr 0 32), (.sl eR2 a0.2.2.2.2.2.2.2.2.2.2.2.2.2.2.2.2.2.2.2.2.2.2.2.2.2.2.2.2.2.2.2.2.1), (.int .i64 (a0.2.2.2.2.2.2.2.2.2.2.2.2.2.2.2.2.2.2.2.2.2.2.2.2.2.2.2.2.2.2.2.2.1.length : Int)), (.ptr 1 32), (.sl eR2 b1.2.2.2.2.2.2.2.2.2.2.2.2.2.2.2.2.2.2.2.2.2.2.2.2.2.2.2.2.2.2.2.2.1), (.int .i64 (b1.2.2.2.2.2.2.2.2.2.2.2.2.2.2.2.2.2.2.2.2.2.2.2.2.2.2.2.2.2.2.2.2.1.length : Int)), .und, .und, .und, .und] [(.arr [(.int .i64 a0.1), (.int .i64 a0.2.1), (.int .i64 a0.2.2.1), (.int .i64 a0.2.2.2.1), (.int .i64 a0.2.2.2.2.1), (.int .i64 a0.2.2.2.2.2.1), (.int .i64 a0.2.2.2.2.2.2.1), (.int .i64 a0.2.2.2.2.2.2.2.1), (.int .i64 a0.2.2.2.2.2.2.2.2.1), (.bool a0.2.2.2.2.2.2.2.2.2.1), (.bool a0.2.2.2.2.2.2.2.2.2.2.1), (.bool a0.2.2.2.2.2.2.2.2.2.2.2.1), (.int .i64 a0.2.2.2.2.2.2.2.2.2.2.2.2.1), (.int .i64 a0.2.2.2.2.2.2.2.2.2.2.2.2.2.1), (.int .i64 a0.2.2.2.2.2.2.2.2.2.2.2.2.2.2.1), (.str a0.2.2.2.2.2.2.2.2.2.2.2.2.2.2.2.1), (.sl eR1 a0.2.2.2.2.2.2.2.2.2.2.2.2.2.2.2.2.1), (.int .i64 a0.2.2.2.2.2.2.2.2.2.2.2.2.2.2.2.2.2.1), (.int .i64 a0.2.2.2.2.2.2.2.2.2.2.2.2.2.2.2.2.2.2.1), (.int .i64 a0.2.2.2.2.2.2.2.2.2.2.2.2.2.2.2.2.2.2.2.1), (.bool a0.2.2.2.2.2.2.2.2.2.2.2.2.2.2.2.2.2.2.2.2.1), (.bool a0.2.2.2.2.2.2.2.2.2.2.2.2.2.2.2.2.2.2.2.2.2.1), (.int .i64 a0.2.2.2.2.2.2.2.2.2.2.2.2.2.2.2.2.2.2.2.2.2.2.1), (.int .i64 a0.2.2.2.2.2.2.2.2.2.2.2.2.2.2.2.2.2.2.2.2.2.2.2.1), (.int .i64 a0.2.2.2.2.2.2.2.2.2.2.2.2.2.2.2.2.2.2.2.2.2.2.2.2.1), (.int .i64 a0.2.2.2.2.2.2.2.2.2.2.2.2.2.2.2.2.2.2.2.2.2.2.2.2.2.1), (.int .i64 a0.2.2.2.2.2.2.2.2.2.2.2.2.2.2.2.2.2.2.2.2.2.2.2.2.2.2.1), (.int .i64 a0.2.2.2.2.2.2.2.2.2.2.2.2.2.2.2.2.2.2.2.2.2.2.2.2.2.2.2.1), (.int .i64 a0.2.2.2.2.2.2.2.2.2.2.2.2.2.2.2.2.2.2.2.2.2.2.2.2.2.2.2.2.1), (.int .i64 a0.2.2.2.2.2.2.2.2.2.2.2.2.2.2.2.2.2.2.2.2.2.2.2.2.2.2.2.2.2.1), (.int .i64 a0.2.2.2.2.2.2.2.2.2.2.2.2.2.2.2.2.2.2.2.2.2.2.2.2.2.2.2.2.2.2.1), (.bool a0.2.2.2.2.2.2.2.2.2.2.2.2.2.2.2.2.2.2.2.2.2.2.2.2.2.2.2.2.2.2.2.1), (.sl eR2 a0.2.2.2.2.2.2.2.2.2.2.2.2.2.2.2.2.2.2.2.2.2.2.2.2.2.2.2.2.2.2.2.2.1), (.sl eI64 a0.2.2.2.2.2.2.2.2.2.2.2.2.2.2.2.2.2.2.2.2.2.2.2.2.2.2.2.2.2.2.2.2.2)]), (.arr [(.int .i64 b1.1), (.int .i64 b1.2.1), (.int .i64 b1.2.2.1), (.int .i64 b1.2.2.2.1), (.int .i64 b1.2.2.2.2.1), (.int .i64 b1.2.2.2.2.2.1), (.int .i64 b1.2.2.2.2.2.2.1), (.int .i64 b1.2.2.2.2.2.2.2.1), (.int .i64 b1.2.2.2.2.2.2.2.2.1), (.bool b1.2.2.2.2.2.2.2.2.2.1), (.bool b1.2.2.2.2.2.2.2.2.2.2.1), (.bool b1.2.2.2.2.2.2.2.2.2.2.2.1), (.int .i64 b1.2.2.2.2.2.2.2.2.2.2.2.2.1), (.int .i64 b1.2.2.2.2.2.2.2.2.2.2.2.2.2.1), (.int .i64 b1.2.2.2.2.2.2.2.2.2.2.2.2.2.2.1), (.str b1.2.2.2.2.2.2.2.2.2.2.2.2.2.2.2.1), (.sl eR1 b1.2.2.2.2.2.2.2.2.2.2.2.2.2.2.2.2.1), (.int .i64 b1.2.2.2.2.2.2.2.2.2.2.2.2.2.2.2.2.2.1), (.int .i64 b1.2.2.2.2.2.2.2.2.2.2.2.2.2.2.2.2.2.2.1), (.int .i64 b1.2.2.2.2.2.2.2.2.2.2.2.2.2.2.2.2.2.2.2.1), (.bool b1.2.2.2.2.2.2.2.2.2.2.2.2.2.2.2.2.2.2.2.2.1), (.bool b1.2.2.2.2.2.2.2.2.2.2.2.2.2.2.2.2.2.2.2.2.2.1), (.int .i64 b1.2.2.2.2.2.2.2.2.2.2.2.2.2.2.2.2.2.2.2.2.2.2.1), (.int .i64 b1.2.2.2.2.2.2.2.2.2.2.2.2.2.2.2.2.2.2.2.2.2.2.2.1), (.int .i64 b1.2.2.2.2.2.2.2.2.2.2.2.2.2.2.2.2.2.2.2.2.2.2.2.2.1), (.int .i64 b1.2.2.2.2.2.2.2.2.2.2.2.2.2.2.2.2.2.2.2.2.2.2.2.2.2.1), (.int .i64 b1.2.2.2.2.2.2.2.2.2.2.2.2.2.2.2.2.2.2.2.2.2.2.2.2.2.2.1), (.int .i64 b1.2.2.2.2.2.2.2.2.2.2.2.2.2.2.2.2.2.2.2.2.2.2.2.2.2.2.2.1), (.int .i64 b1.2.2.2.2.2.2.2.2.2.2.2.2.2.2.2.2.2.2.2.2.2.2.2.2.2.2.2.2.1), (.int .i64 b1.2.2.2.2.2.2.2.2.2.2.2.2.2.2.2.2.2.2.2.2.2.2.2.2.2.2.2.2.2.1), (.int .i64 b1.2.2.2.2.2.2.2.2.2.2.2.2.2.2.2.2.2.2.2.2.2.2.2.2.2.2.2.2.2.2.1), (.bool b1.2.2.2.2.2.2.2.2.2.2.2.2.2.2.2.2.2.2.2.2.2.2.2.2.2.2.2.2.2.2.2.1), (.sl eR2 b1.2.2.2.2.2.2.2.2.2.2.2.2.2.2.2.2.2.2.2.2.2.2.2.2.2.2.2.2.2.2.2.2.1), (.sl eI64 b1.2.2.2.2.2.2.2.2.2.2.2.2.2.2.2.2.2.2.2.2.2.2.2.2.2.2.2.2.2.2.2.2.2)])]
def view_Choose_f1_c3 (a0 : eR0.T) (b1 : eR0.T) (r2 : Int) (r3 : Int) (Q : Bool → Prop) : Prop := Run Try.prog 0 (FinS Try.prog 0 Try.f36 (view_Choose_f1_R Q)) [.dops (.op (POper.mk (some 18) (.callf 37 [(.tmp 17)]) none) none :: view_Choose_f1_o4_14) view_Choose_f1_e4 [([], []), ([], [0]), ([], []), ([], [1]), ([], []), ([], []), ([], [0]), ([], []), ([], []), ([], [1]), ([], []), ([], []), ([2], [])], .code .ret] [(.agg [(.int .i64 a0.1), (.int .i64 a0.2.1), (.int .i64 a0.2.2.1), (.int .i64 a0.2.2.2.1), (.int .i64 a0.2.2.2.2.1), (.int .i64 a0.2.2.2.2.2.1), (.int .i64 a0.2.2.2.2.2.2.1), (.int .i64 a0.2.2.2.2.2.2.2.1), (.int .i64 a0.2.2.2.2.2.2.2.2.1), (.bool a0.2.2.2.2.2.2.2.2.2.1), (.bool a0.2.2.2.2.2.2.2.2.2.2.1), (.bool a0.2.2.2.2.2.2.2.2.2.2.2.1), (.int .i64 a0.2.2.2.2.2.2.2.2.2.2.2.2.1), (.int .i64 a0.2.2.2.2.2.2.2.2.2.2.2.2.2.1), (.int .i64 a0.2.2.2.2.2.2.2.2.2.2.2.2.2.2.1), (.str a0.2.2.2.2.2.2.2.2.2.2.2.2.2.2.2.1), (.sl eR1 a0.2.2.2.2.2.2.2.2.2.2.2.2.2.2.2.2.1), (.int .i64 a0.2.2.2.2.2.2.2.2.2.2.2.2.2.2.2.2.2.1), (.int .i64 a0.2.2.2.2.2.2.2.2.2.2.2.2.2.2.2.2.2.2.1), (.int .i64 a0.2.2.2.2.2.2.2.2.2.2.2.2.2.2.2.2.2.2.2.1), (.bool a0.2.2.2.2.2.2.2.2.2.2.2.2.2.2.2.2.2.2.2.2.1), (.bool a0.2.2.2.2.2.2.2.2.2.2.2.2.2.2.2.2.2.2.2.2.2.1), (.int .i64 a0.2.2.2.2.2.2.2.2.2.2.2.2.2.2.2.2.2.2.2.2.2.2.1), (.int .i64 a0.2.2.2.2.2.2.2.2.2.2.2.2.2.2.2.2.2.2.2.2.2.2.2.1), (.int .i64 a0.2.2.2.2.2.2.2.2.2.2.2.2.2.2.2.2.2.2.2.2.2.2.2.2.1), (.int .i64 a0.2.2.2.2.2.2.2.2.2.2.2.2.2.2.2.2.2.2.2.2.2.2.2.2.2.1), (.int .i64 a0.2.2.2.2.2.2.2.2.2.2.2.2.2.2.2.2.2.2.2.2.2.2.2.2.2.2.1), (.int .i64 a0.2.2.2.2.2.2.2.2.2.2.2.2.2.2.2.2.2.2.2.2.2.2.2.2.2.2.2.1), (.int .i64 a0.2.2.2.2.2.2.2.2.2.2.2.2.2.2.2.2.2.2.2.2.2.2.2.2.2.2.2.2.1), (.int .i64 a0.2.2.2.2.2.2.2.2.2.2.2.2.2.2.2.2.2.2.2.2.2.2.2.2.2.2.2.2.2.1), (.int .i64 a0.2.2.2.2.2.2.2.2.2.2.2.2.2.2.2.2.2.2.2.2.2.2.2.2.2.2.2.2.2.2.1), (.bool a0.2.2.2.2.2.2.2.2.2.2.2.2.2.2.2.2.2.2.2.2.2.2.2.2.2.2.2.2.2.2.2.1), (.sl eR2 a0.2.2.2.2.2.2.2.2.2.2.2.2.2.2.2.2.2.2.2.2.2.2.2.2.2.2.2.2.2.2.2.2.1), (.sl eI64 a0.2.2.2.2.2.2.2.2.2.2.2.2.2.2.2.2.2.2.2.2.2.2.2.2.2.2.2.2.2.2.2.2.2)]), (.agg [(.int .i64 b1.1), (.int .i64 b1.2.1), (.int .i64 b1.2.2.1), (.int .i64 b1.2.2.2.1), (.int .i64 b1.2.2.2.2.1), (.int .i64 b1.2.2.2.2.2.1), (.int .i64 b1.2.2.2.2.2.2.1), (.int .i64 b1.2.2.2.2.2.2.2.1), (.int .i64 b1.2.2.2.2.2.2.2.2.1), (.bool b1.2.2.2.2.2.2.2.2.2.1), (.bool b1.2.2.2.2.2.2.2.2.2.2.1), (.bool b1.2.2.2.2.2.2.2.2.2.2.2.1), (.int .i64 b1.2.2.2.2.2.2.2.2.2.2.2.2.1), (.int .i64 b1.2.2.2.2.2.2.2.2.2.2.2.2.2.1), (.int .i64 b1.2.2.2.2.2.2.2.2.2.2.2.2.2.2.1), (.str b1.2.2.2.2.2.2.2.2.2.2.2.2.2.2.2.1), (.sl eR1 b1.2.2.2.2.2.2.2.2.2.2.2.2.2.2.2.2.1), (.int .i64 b1.2.2.2.2.2.2.2.2.2.2.2.2.2.2.2.2.2.1), (.int .i64 b1.2.2.2.2.2.2.2.2.2.2.2.2.2.2.2.2.2.2.1), (.int .i64 b1.2.2.2.2.2.2.2.2.2.2.2.2.2.2.2.2.2.2.2.1), (.bool b1.2.2.2.2.2.2.2.2.2.2.2.2.2.2.2.2.2.2.2.2.1), (.bool b1.2.2.2.2.2.2.2.2.2.2.2.2.2.2.2.2.2.2.2.2.2.1), (.int .i64 b1.2.2.2.2.2.2.2.2.2.2.2.2.2.2.2.2.2.2.2.2.2.2.1), (.int .i64 b1.2.2.2.2.2.2.2.2.2.2.2.2.2.2.2.2.2.2.2.2.2.2.2.1), (.int .i64 b1.2.2.2.2.2.2.2.2.2.2.2.2.2.2.2.2.2.2.2.2.2.2.2.2.1), (.int .i64 b1.2.2.2.2.2.2.2.2.2.2.2.2.2.2.2.2.2.2.2.2.2.2.2.2.2.1), (.int .i64 b1.2.2.2.2.2.2.2.2.2.2.2.2.2.2.2.2.2.2.2.2.2.2.2.2.2.2.1), (.int .i64 b1.2.2.2.2.2.2.2.2.2.2.2.2.2.2.2.2.2.2.2.2.2.2.2.2.2.2.2.1), (.int .i64 b1.2.2.2.2.2.2.2.2.2.2.2.2.2.2.2.2.2.2.2.2.2.2.2.2.2.2.2.2.1), (.int .i64 b1.2.2.2.2.2.2.2.2.2.2.2.2.2.2.2.2.2.2.2.2.2.2.2.2.2.2.2.2.2.1), (.int .i64 b1.2.2.2.2.2.2.2.2.2.2.2.2.2.2.2.2.2.2.2.2.2.2.2.2.2.2.2.2.2.2.1), (.bool b1.2.2.2.2.2.2.2.2.2.2.2.2.2.2.2.2.2.2.2.2.2.2.2.2.2.2.2.2.2.2.2.1), (.sl eR2 b1.2.2.2.2.2.2.2.2.2.2.2.2.2.2.2.2.2.2.2.2.2.2.2.2.2.2.2.2.2.2.2.2.1), (.sl eI64 b1.2.2.2.2.2.2.2.2.2.2.2.2.2.2.2.2.2.2.2.2.2.2.2.2.2.2.2.2.2.2.2.2.2)]), (.ptr 0 0), (.ptr 1 0), (.bool false), (.ptr 0 4), (.int .i64 a0.2.2.2.2.1), (.ptr 1 4), (.int .i64 b1.2.2.2.2.1), (.int .i64 r2), (.ptr 0 32), (.sl eR2 a0.2.2.2.2.2.2.2.2.2.2.2.2.2.2.2.2.2.2.2.2.2.2.2.2.2.2.2.2.2.2.2.2.1), (.int .i64 (a0.2.2.2.2.2.2.2.2.2.2.2.2.2.2.2.2.2.2.2.2.2.2.2.2.2.2.2.2.2.2.2.2.1.length : Int)), (.ptr 1 32), (.sl eR2 b1.2.2.2.2.2.2.2.2.2.2.2.2.2.2.2.2.2.2.2.2.2.2.2.2.2.2.2.2.2.2.2.2.1), (.int .i64 (b1.2.2.2.2.2.2.2.2.2.2.2.2.2.2.2.2.2.2.2.2.2.2.2.2.2.2.2.2.2.2.2.2.1.length : Int)), (.int .i64 r3), (.ls 2 0 2 1 true), .und, .und] [(.arr [(.int .i64 a0.1), (.int .i64 a0.2.1), (.int .i64 a0.2.2.1), (.int .i64 a0.2.2.2.1), (.int .i64 a0.2.2.2.2.1), (.int .i64 a0.2.2.2.2.2.1), (.int .i64 a0.2.2.2.2.2.2.1), (.int .i64 a0.2.2.2.2.2.2.2.1), (.int .i64 a0.2.2.2.2.2.2.2.2.1), (.bool a0.2.2.2.2.2.2.2.2.2.1), (.bool a0.2.2.2.2.2.2.2.2.2.2.1), (.bool a0.2.2.2.2.2.2.2.2.2.2.2.1), (.int .i64 a0.2.2.2.2.2.2.2.2.2.2.2.2.1), (.int .i64 a0.2.2.2.2.2.2.2.2.2.2.2.2.2.1), (.int .i64 a0.2.2.2.2.2.2.2.2.2.2.2.2.2.2.1), (.str a0.2.2.2.2.2.2.2.2.2.2.2.2.2.2.2.1), (.sl eR1 a0.2.2.2.2.2.2.2.2.2.2.2.2.2.2.2.2.1), (.int .i64 a0.2.2.2.2.2.2.2.2.2.2.2.2.2.2.2.2.2.1), (.int .i64 a0.2.2.2.2.2.2.2.2.2.2.2.2.2.2.2.2.2.2.1), (.int .i64 a0.2.2.2.2.2.2.2.2.2.2.2.2.2.2.2.2.2.2.2.1), (.bool a0.2.2.2.2.2.2.2.2.2.2.2.2.2.2.2.2.2.2.2.2.1), (.bool a0.2.2.2.2.2.2.2.2.2.2.2.2.2.2.2.2.2.2.2.2.2.1), (.int .i64 a0.2.2.2.2.2.2.2.2.2.2.2.2.2.2.2.2.2.2.2.2.2.2.1), (.int .i64 a0.2.2.2.2.2.2.2.2.2.2.2.2.2.2.2.2.2.2.2.2.2.2.2.1), (.int .i64 a0.2.2.2.2.2.2.2.2.2.2.2.2.2.2.2.2.2.2.2.2.2.2.2.2.1), (.int .i64 a0.2.2.2.2.2.2.2.2.2.2.2.2.2.2.2.2.2.2.2.2.2.2.2.2.2.1), (.int .i64 a0.2.2.2.2.2.2.2.2.2.2.2.2.2.2.2.2.2.2.2.2.2.2.2.2.2.2.1), (.int .i64 a0.2.2.2.2.2.2.2.2.2.2.2.2.2.2.2.2.2.2.2.2.2.2.2.2.2.2.2.1), (.int .i64 a0.2.2.2.2.2.2.2.2.2.2.2.2.2.2.2.2.2.2.2.2.2.2.2.2.2.2.2.2.1), (.int .i64 a0.2.2.2.2.2.2.2.2.2.2.2.2.2.2.2.2.2.2.2.2.2.2.2.2.2.2.2.2.2.1), (.int .i64 a0.2.2.2.2.2.2.2.2.2.2.2.2.2.2.2.2.2.2.2.2.2.2.2.2.2.2.2.2.2.2.1), (.bool a0.2.2.2.2.2.2.2.2.2.2.2.2.2.2.2.2.2.2.2.2.2.2.2.2.2.2.2.2.2.2.2.1), (.sl eR2 a0.2.2.2.2.2.2.2.2.2.2.2.2.2.2.2.2.2.2.2.2.2.2.2.2.2.2.2.2.2.2.2.2.1), (.sl eI64 a0.2.2.2.2.2.2.2.2.2.2.2.2.2.2.2.2.2.2.2.2.2.2.2.2.2.2.2.2.2.2.2.2.2)]), (.arr [(.int .i64 b1.1), (.int .i64 b1.2.1), (.int .i64 b1.2.2.1), (.int .i64 b1.2.2.2.1), (.int .i64 b1.2.2.2.2.1), (.int .i64 b1.2.2.2.2.2.1), (.int .i64 b1.2.2.2.2.2.2.1), (.int .i64 b1.2.2.2.2.2.2.2.1), (.int .i64 b1.2.2.2.2.2.2.2.2.1), (.bool b1.2.2.2.2.2.2.2.2.2.1), (.bool b1.2.2.2.2.2.2.2.2.2.2.1), (.bool b1.2.2.2.2.2.2.2.2.2.2.2.1), (.int .i64 b1.2.2.2.2.2.2.2.2.2.2.2.2.1), (.int .i64 b1.2.2.2.2.2.2.2.2.2.2.2.2.2.1), (.int .i64 b1.2.2.2.2.2.2.2.2.2.2.2.2.2.2.1), (.str b1.2.2.2.2.2.2.2.2.2.2.2.2.2.2.2.1), (.sl eR1 b1.2.2.2.2.2.2.2.2.2.2.2.2.2.2.2.2.1), (.int .i64 b1.2.2.2.2.2.2.2.2.2.2.2.2.2.2.2.2.2.1), (.int .i64 b1.2.2.2.2.2.2.2.2.2.2.2.2.2.2.2.2.2.2.1), (.int .i64 b1.2.2.2.2.2.2.2.2.2.2.2.2.2.2.2.2.2.2.2.1), (.bool b1.2.2.2.2.2.2.2.2.2.2.2.2.2.2.2.2.2.2.2.2.1), (.bool b1.2.2.2.2.2.2.2.2.2.2.2.2.2.2.2.2.2.2.2.2.2.1), (.int .i64 b1.2.2.2.2.2.2.2.2.2.2.2.2.2.2.2.2.2.2.2.2.2.2.1), (.int .i64 b1.2.2.2.2.2.2.2.2.2.2.2.2.2.2.2.2.2.2.2.2.2.2.2.1), (.int .i64 b1.2.2.2.2.2.2.2.2.2.2.2.2.2.2.2.2.2.2.2.2.2.2.2.2.1), (.int .i64 b1.2.2.2.2.2.2.2.2.2.2.2.2.2.2.2.2.2.2.2.2.2.2.2.2.2.1), (.int .i64 b1.2.2.2.2.2.2.2.2.2.2.2.2.2.2.2.2.2.2.2.2.2.2.2.2.2.2.1), (.int .i64 b1.2.2.2.2.2.2.2.2.2.2.2.2.2.2.2.2.2.2.2.2.2.2.2.2.2.2.2.1), (.int .i64 b1.2.2.2.2.2.2.2.2.2.2.2.2.2.2.2.2.2.2.2.2.2.2.2.2.2.2.2.2.1), (.int .i64 b1.2.2.2.2.2.2.2.2.2.2.2.2.2.2.2.2.2.2.2.2.2.2.2.2.2.2.2.2.2.1), (.int .i64 b1.2.2.2.2.2.2.2.2.2.2.2.2.2.2.2.2.2.2.2.2.2.2.2.2.2.2.2.2.2.2.1), (.bool b1.2.2.2.2.2.2.2.2.2.2.2.2.2.2.2.2.2.2.2.2.2.2.2.2.2.2.2.2.2.2.2.1), (.sl eR2 b1.2.2.2.2.2.2.2.2.2.2.2.2.2.2.2.2.2.2.2.2.2.2.2.2.2.2.2.2.2.2.2.2.1), (.sl eI64 b1.2.2.2.2.2.2.2.2.2.2.2.2.2.2.2.2.2.2.2.2.2.2.2.2.2.2.2.2.2.2.2.2.2)]), (.arr [(.int .i64 r2), (.int .i64 r3)])]
theorem view_Choose_f1_step (a0 : eR0.T) (b1 : eR0.T) {Q : Bool → Prop} (h :
    view_Choose_f1_c1 a0 b1 Q) : view_Choose_f1 a0 b1 Q :=
  adv_go 6000 mixed view_Choose_f1_rr (fa := [.gc]) (by kernel_rfl) h
theorem view_Choose_f1_c1_step (a0 : eR0.T) (b1 : eR0.T) {Q : Bool → Prop} (r2 : Int) (hc : cmp_Compare_int a0.2.2.2.2.1 b1.2.2.2.2.1 (fun x => x = r2)) (h :
    view_Choose_f1_c2 a0 b1 r2 Q) : view_Choose_f1_c1 a0 b1 Q :=
  run_dcallf (tout := (lendOut [] 2 (cmp_Compare_int_enc r2) (cmp_Compare_int_obj r2))) (call_typed [] (cmp_Compare_int_ok a0.2.2.2.2.1 b1.2.2.2.2.1 r2 hc) (by kernel_rfl) (by kernel_rfl) (by kernel_rfl)) (adv_go 6000 mixed view_Choose_f1_rr (fa := [.gc]) (by kernel_rfl) h)
theorem view_Choose_f1_c2_step (a0 : eR0.T) (b1 : eR0.T) (r2 : Int) {Q : Bool → Prop} (r3 : Int) (hc : cmp_Compare_int (a0.2.2.2.2.2.2.2.2.2.2.2.2.2.2.2.2.2.2.2.2.2.2.2.2.2.2.2.2.2.2.2.2.1.length : Int) (b1.2.2.2.2.2.2.2.2.2.2.2.2.2.2.2.2.2.2.2.2.2.2.2.2.2.2.2.2.2.2.2.2.1.length : Int) (fun x => x = r3)) (h :
    view_Choose_f1_c3 a0 b1 r2 r3 Q) : view_Choose_f1_c2 a0 b1 r2 Q :=
  run_dcallf (tout := (lendOut [] 2 (cmp_Compare_int_enc r3) (cmp_Compare_int_obj r3))) (call_typed [] (cmp_Compare_int_ok (a0.2.2.2.2.2.2.2.2.2.2.2.2.2.2.2.2.2.2.2.2.2.2.2.2.2.2.2.2.2.2.2.2.1.length : Int) (b1.2.2.2.2.2.2.2.2.2.2.2.2.2.2.2.2.2.2.2.2.2.2.2.2.2.2.2.2.2.2.2.2.1.length : Int) r3 hc) (by kernel_rfl) (by kernel_rfl) (by kernel_rfl)) (adv_go 6000 mixed view_Choose_f1_rr (fa := [.gc]) (by kernel_rfl) h)
theorem view_Choose_f1_c3_step (a0 : eR0.T) (b1 : eR0.T) (r2 : Int) (r3 : Int) {Q : Bool → Prop} (r4 : Int) (hc : cmp_Or_int r2 r3 (fun x => x = r4)) (h :
    view_Choose_f1_ret Q (decide (r4 > 0))) : view_Choose_f1_c3 a0 b1 r2 r3 Q :=
  run_dcallf (tout := (lendOut [2] 3 (cmp_Or_int_enc r2 r3 r4) (cmp_Or_int_obj r2 r3 r4))) (call_typed [2] (cmp_Or_int_ok r2 r3 r4 hc) (by kernel_rfl) (by kernel_rfl) (by kernel_rfl)) (adv_go 6000 mixed view_Choose_f1_rr (fa := [.gc]) (by kernel_rfl) h)
theorem view_Choose_f1_act (a0 : eR0.T) (b1 : eR0.T) {Q : Bool → Prop} (h : view_Choose_f1 a0 b1 Q) : ACT Try.prog 36 [(.agg [(.int .i64 a0.1), (.int .i64 a0.2.1), (.int .i64 a0.2.2.1), (.int .i64 a0.2.2.2.1), (.int .i64 a0.2.2.2.2.1), (.int .i64 a0.2.2.2.2.2.1), (.int .i64 a0.2.2.2.2.2.2.1), (.int .i64 a0.2.2.2.2.2.2.2.1), (.int .i64 a0.2.2.2.2.2.2.2.2.1), (.bool a0.2.2.2.2.2.2.2.2.2.1), (.bool a0.2.2.2.2.2.2.2.2.2.2.1), (.bool a0.2.2.2.2.2.2.2.2.2.2.2.1), (.int .i64 a0.2.2.2.2.2.2.2.2.2.2.2.2.1), (.int .i64 a0.2.2.2.2.2.2.2.2.2.2.2.2.2.1), (.int .i64 a0.2.2.2.2.2.2.2.2.2.2.2.2.2.2.1), (.str a0.2.2.2.2.2.2.2.2.2.2.2.2.2.2.2.1), (.sl eR1 a0.2.2.2.2.2.2.2.2.2.2.2.2.2.2.2.2.1), (.int .i64 a0.2.2.2.2.2.2.2.2.2.2.2.2.2.2.2.2.2.1), (.int .i64 a0.2.2.2.2.2.2.2.2.2.2.2.2.2.2.2.2.2.2.1), (.int .i64 a0.2.2.2.2.2.2.2.2.2.2.2.2.2.2.2.2.2.2.2.1), (.bool a0.2.2.2.2.2.2.2.2.2.2.2.2.2.2.2.2.2.2.2.2.1), (.bool a0.2.2.2.2.2.2.2.2.2.2.2.2.2.2.2.2.2.2.2.2.2.1), (.int .i64 a0.2.2.2.2.2.2.2.2.2.2.2.2.2.2.2.2.2.2.2.2.2.2.1), (.int .i64 a0.2.2.2.2.2.2.2.2.2.2.2.2.2.2.2.2.2.2.2.2.2.2.2.1), (.int .i64 a0.2.2.2.2.2.2.2.2.2.2.2.2.2.2.2.2.2.2.2.2.2.2.2.2.1), (.int .i64 a0.2.2.2.2.2.2.2.2.2.2.2.2.2.2.2.2.2.2.2.2.2.2.2.2.2.1), (.int .i64 a0.2.2.2.2.2.2.2.2.2.2.2.2.2.2.2.2.2.2.2.2.2.2.2.2.2.2.1), (.int .i64 a0.2.2.2.2.2.2.2.2.2.2.2.2.2.2.2.2.2.2.2.2.2.2.2.2.2.2.2.1), (.int .i64 a0.2.2.2.2.2.2.2.2.2.2.2.2.2.2.2.2.2.2.2.2.2.2.2.2.2.2.2.2.1), (.int .i64 a0.2.2.2.2.2.2.2.2.2.2.2.2.2.2.2.2.2.2.2.2.2.2.2.2.2.2.2.2.2.1), (.int .i64 a0.2.2.2.2.2.2.2.2.2.2.2.2.2.2.2.2.2.2.2.2.2.2.2.2.2.2.2.2.2.2.1), (.bool a0.2.2.2.2.2.2.2.2.2.2.2.2.2.2.2.2.2.2.2.2.2.2.2.2.2.2.2.2.2.2.2.1), (.sl eR2 a0.2.2.2.2.2.2.2.2.2.2.2.2.2.2.2.2.2.2.2.2.2.2.2.2.2.2.2.2.2.2.2.2.1), (.sl eI64 a0.2.2.2.2.2.2.2.2.2.2.2.2.2.2.2.2.2.2.2.2.2.2.2.2.2.2.2.2.2.2.2.2.2)]), (.agg [(.int .i64 b1.1), (.int .i64 b1.2.1), (.int .i64 b1.2.2.1), (.int .i64 b1.2.2.2.1), (.int .i64 b1.2.2.2.2.1), (.int .i64 b1.2.2.2.2.2.1), (.int .i64 b1.2.2.2.2.2.2.1), (.int .i64 b1.2.2.2.2.2.2.2.1), (.int .i64 b1.2.2.2.2.2.2.2.2.1), (.bool b1.2.2.2.2.2.2.2.2.2.1), (.bool b1.2.2.2.2.2.2.2.2.2.2.1), (.bool b1.2.2.2.2.2.2.2.2.2.2.2.1), (.int .i64 b1.2.2.2.2.2.2.2.2.2.2.2.2.1), (.int .i64 b1.2.2.2.2.2.2.2.2.2.2.2.2.2.1), (.int .i64 b1.2.2.2.2.2.2.2.2.2.2.2.2.2.2.1), (.str b1.2.2.2.2.2.2.2.2.2.2.2.2.2.2.2.1), (.sl eR1 b1.2.2.2.2.2.2.2.2.2.2.2.2.2.2.2.2.1), (.int .i64 b1.2.2.2.2.2.2.2.2.2.2.2.2.2.2.2.2.2.1), (.int .i64 b1.2.2.2.2.2.2.2.2.2.2.2.2.2.2.2.2.2.2.1), (.int .i64 b1.2.2.2.2.2.2.2.2.2.2.2.2.2.2.2.2.2.2.2.1), (.bool b1.2.2.2.2.2.2.2.2.2.2.2.2.2.2.2.2.2.2.2.2.1), (.bool b1.2.2.2.2.2.2.2.2.2.2.2.2.2.2.2.2.2.2.2.2.2.1), (.int .i64 b1.2.2.2.2.2.2.2.2.2.2.2.2.2.2.2.2.2.2.2.2.2.2.1), (.int .i64 b1.2.2.2.2.2.2.2.2.2.2.2.2.2.2.2.2.2.2.2.2.2.2.2.1), (.int .i64 b1.2.2.2.2.2.2.2.2.2.2.2.2.2.2.2.2.2.2.2.2.2.2.2.2.1), (.int .i64 b1.2.2.2.2.2.2.2.2.2.2.2.2.2.2.2.2.2.2.2.2.2.2.2.2.2.1), (.int .i64 b1.2.2.2.2.2.2.2.2.2.2.2.2.2.2.2.2.2.2.2.2.2.2.2.2.2.2.1), (.int .i64 b1.2.2.2.2.2.2.2.2.2.2.2.2.2.2.2.2.2.2.2.2.2.2.2.2.2.2.2.1), (.int .i64 b1.2.2.2.2.2.2.2.2.2.2.2.2.2.2.2.2.2.2.2.2.2.2.2.2.2.2.2.2.1), (.int .i64 b1.2.2.2.2.2.2.2.2.2.2.2.2.2.2.2.2.2.2.2.2.2.2.2.2.2.2.2.2.2.1), (.int .i64 b1.2.2.2.2.2.2.2.2.2.2.2.2.2.2.2.2.2.2.2.2.2.2.2.2.2.2.2.2.2.2.1), (.bool b1.2.2.2.2.2.2.2.2.2.2.2.2.2.2.2.2.2.2.2.2.2.2.2.2.2.2.2.2.2.2.2.1), (.sl eR2 b1.2.2.2.2.2.2.2.2.2.2.2.2.2.2.2.2.2.2.2.2.2.2.2.2.2.2.2.2.2.2.2.2.1), (.sl eI64 b1.2.2.2.2.2.2.2.2.2.2.2.2.2.2.2.2.2.2.2.2.2.2.2.2.2.2.2.2.2.2.2.2.2)])] [] (view_Choose_f1_R Q) :=
  act_go Try.func36 (by rfl) (by kernel_rfl) view_Choose_f1_rc (n0 := 0) rfl (by kernel_rfl) h
theorem view_Choose_f1_ok (a0 : eR0.T) (b1 : eR0.T) (r : Bool) (h : view_Choose_f1 a0 b1 (fun x => x = r)) : ACT Try.prog 36 [(.agg [(.int .i64 a0.1), (.int .i64 a0.2.1), (.int .i64 a0.2.2.1), (.int .i64 a0.2.2.2.1), (.int .i64 a0.2.2.2.2.1), (.int .i64 a0.2.2.2.2.2.1), (.int .i64 a0.2.2.2.2.2.2.1), (.int .i64 a0.2.2.2.2.2.2.2.1), (.int .i64 a0.2.2.2.2.2.2.2.2.1), (.bool a0.2.2.2.2.2.2.2.2.2.1), (.bool a0.2.2.2.2.2.2.2.2.2.2.1), (.bool a0.2.2.2.2.2.2.2.2.2.2.2.1), (.int .i64 a0.2.2.2.2.2.2.2.2.2.2.2.2.1), (.int .i64 a0.2.2.2.2.2.2.2.2.2.2.2.2.2.1), (.int .i64 a0.2.2.2.2.2.2.2.2.2.2.2.2.2.2.1), (.str a0.2.2.2.2.2.2.2.2.2.2.2.2.2.2.2.1), (.sl eR1 a0.2.2.2.2.2.2.2.2.2.2.2.2.2.2.2.2.1), (.int .i64 a0.2.2.2.2.2.2.2.2.2.2.2.2.2.2.2.2.2.1), (.int .i64 a0.2.2.2.2.2.2.2.2.2.2.2.2.2.2.2.2.2.2.1), (.int .i64 a0.2.2.2.2.2.2.2.2.2.2.2.2.2.2.2.2.2.2.2.1), (.bool a0.2.2.2.2.2.2.2.2.2.2.2.2.2.2.2.2.2.2.2.2.1), (.bool a0.2.2.2.2.2.2.2.2.2.2.2.2.2.2.2.2.2.2.2.2.2.1), (.int .i64 a0.2.2.2.2.2.2.2.2.2.2.2.2.2.2.2.2.2.2.2.2.2.2.1), (.int .i64 a0.2.2.2.2.2.2.2.2.2.2.2.2.2.2.2.2.2.2.2.2.2.2.2.1), (.int .i64 a0.2.2.2.2.2.2.2.2.2.2.2.2.2.2.2.2.2.2.2.2.2.2.2.2.1), (.int .i64 a0.2.2.2.2.2.2.2.2.2.2.2.2.2.2.2.2.2.2.2.2.2.2.2.2.2.1), (.int .i64 a0.2.2.2.2.2.2.2.2.2.2.2.2.2.2.2.2.2.2.2.2.2.2.2.2.2.2.1), (.int .i64 a0.2.2.2.2.2.2.2.2.2.2.2.2.2.2.2.2.2.2.2.2.2.2.2.2.2.2.2.1), (.int .i64 a0.2.2.2.2.2.2.2.2.2.2.2.2.2.2.2.2.2.2.2.2.2.2.2.2.2.2.2.2.1), (.int .i64 a0.2.2.2.2.2.2.2.2.2.2.2.2.2.2.2.2.2.2.2.2.2.2.2.2.2.2.2.2.2.1), (.int .i64 a0.2.2.2.2.2.2.2.2.2.2.2.2.2.2.2.2.2.2.2.2.2.2.2.2.2.2.2.2.2.2.1), (.bool a0.2.2.2.2.2.2.2.2.2.2.2.2.2.2.2.2.2.2.2.2.2.2.2.2.2.2.2.2.2.2.2.1), (.sl eR2 a0.2.2.2.2.2.2.2.2.2.2.2.2.2.2.2.2.2.2.2.2.2.2.2.2.2.2.2.2.2.2.2.2.1), (.sl eI64 a0.2.2.2.2.2.2.2.2.2.2.2.2.2.2.2.2.2.2.2.2.2.2.2.2.2.2.2.2.2.2.2.2.2)]), (.agg [(.int .i64 b1.1), (.int .i64 b1.2.1), (.int .i64 b1.2.2.1), (.int .i64 b1.2.2.2.1), (.int .i64 b1.2.2.2.2.1), (.int .i64 b1.2.2.2.2.2.1), (.int .i64 b1.2.2.2.2.2.2.1), (.int .i64 b1.2.2.2.2.2.2.2.1), (.int .i64 b1.2.2.2.2.2.2.2.2.1), (.bool b1.2.2.2.2.2.2.2.2.2.1), (.bool b1.2.2.2.2.2.2.2.2.2.2.1), (.bool b1.2.2.2.2.2.2.2.2.2.2.2.1), (.int .i64 b1.2.2.2.2.2.2.2.2.2.2.2.2.1), (.int .i64 b1.2.2.2.2.2.2.2.2.2.2.2.2.2.1), (.int .i64 b1.2.2.2.2.2.2.2.2.2.2.2.2.2.2.1), (.str b1.2.2.2.2.2.2.2.2.2.2.2.2.2.2.2.1), (.sl eR1 b1.2.2.2.2.2.2.2.2.2.2.2.2.2.2.2.2.1), (.int .i64 b1.2.2.2.2.2.2.2.2.2.2.2.2.2.2.2.2.2.1), (.int .i64 b1.2.2.2.2.2.2.2.2.2.2.2.2.2.2.2.2.2.2.1), (.int .i64 b1.2.2.2.2.2.2.2.2.2.2.2.2.2.2.2.2.2.2.2.1), (.bool b1.2.2.2.2.2.2.2.2.2.2.2.2.2.2.2.2.2.2.2.2.1), (.bool b1.2.2.2.2.2.2.2.2.2.2.2.2.2.2.2.2.2.2.2.2.2.1), (.int .i64 b1.2.2.2.2.2.2.2.2.2.2.2.2.2.2.2.2.2.2.2.2.2.2.1), (.int .i64 b1.2.2.2.2.2.2.2.2.2.2.2.2.2.2.2.2.2.2.2.2.2.2.2.1), (.int .i64 b1.2.2.2.2.2.2.2.2.2.2.2.2.2.2.2.2.2.2.2.2.2.2.2.2.1), (.int .i64 b1.2.2.2.2.2.2.2.2.2.2.2.2.2.2.2.2.2.2.2.2.2.2.2.2.2.1), (.int .i64 b1.2.2.2.2.2.2.2.2.2.2.2.2.2.2.2.2.2.2.2.2.2.2.2.2.2.2.1), (.int .i64 b1.2.2.2.2.2.2.2.2.2.2.2.2.2.2.2.2.2.2.2.2.2.2.2.2.2.2.2.1), (.int .i64 b1.2.2.2.2.2.2.2.2.2.2.2.2.2.2.2.2.2.2.2.2.2.2.2.2.2.2.2.2.1), (.int .i64 b1.2.2.2.2.2.2.2.2.2.2.2.2.2.2.2.2.2.2.2.2.2.2.2.2.2.2.2.2.2.1), (.int .i64 b1.2.2.2.2.2.2.2.2.2.2.2.2.2.2.2.2.2.2.2.2.2.2.2.2.2.2.2.2.2.2.1), (.bool b1.2.2.2.2.2.2.2.2.2.2.2.2.2.2.2.2.2.2.2.2.2.2.2.2.2.2.2.2.2.2.2.1), (.sl eR2 b1.2.2.2.2.2.2.2.2.2.2.2.2.2.2.2.2.2.2.2.2.2.2.2.2.2.2.2.2.2.2.2.2.1), (.sl eI64 b1.2.2.2.2.2.2.2.2.2.2.2.2.2.2.2.2.2.2.2.2.2.2.2.2.2.2.2.2.2.2.2.2.2)])] [] (fun tv tL => tv = view_Choose_f1_enc r ∧ tL = view_Choose_f1_obj r) := act_det (view_Choose_f1_act a0 b1 h)

/-! drover/view.Choose -/
def view_Choose_enc  : (Int × Bool) → TV := fun r => (.tup [(.int .i64 r.1), (.bool r.2)])
def view_Choose_obj  : (Int × Bool) → List TO := fun r => []
def view_Choose_R  (Q : (Int × Bool) → Prop) : TV → List TO → Prop := RetR (view_Choose_enc) (view_Choose_obj) Q
def view_Choose_ret  (Q : (Int × Bool) → Prop) (r : (Int × Bool)) : Prop := view_Choose_R Q (view_Choose_enc r) (view_Choose_obj r)
theorem view_Choose_ret.intro  {Q : (Int × Bool) → Prop} {r : (Int × Bool)} (h : Q r) : view_Choose_ret Q r := RetR.intro h
def view_Choose_o2_0 : List WOp := .op (POper.mk (some 2) (.move (.const (.int .i64 0))) none) none :: .op (POper.mk (some 3) (.move (.const (.bool false))) none) none :: []
def view_Choose_w2 : WC := (.region view_Choose_o2_0)
def view_Choose_o4_0 : List WOp := .op (POper.mk (some 4) (.move (.const (.int .i64 (-1)))) none) none :: []
def view_Choose_w4 : WC := (.region view_Choose_o4_0)
def view_Choose_o6_0 : List WOp := .op (POper.mk (some 5) (.move (.func 36)) none) none :: []
def view_Choose_w6 : WC := (.region view_Choose_o6_0)
def view_Choose_o9_0 : List WOp := .op (POper.mk (some 8) (.move (.tmp 0)) none) none :: .op (POper.mk (some 9) (.len (.tmp 8)) none) none :: .op (POper.mk (some 10) (.move (.const (.int .i64 0))) none) none :: []
def view_Choose_w9 : WC := (.region view_Choose_o9_0)
def view_Choose_o13_0 : List WOp := .op (POper.mk (some 11) (.bin .lss (.tmp 10) (.tmp 9)) none) none :: []
def view_Choose_w13 : WC := (.region view_Choose_o13_0)
def view_Choose_w15 : WC := (.cond (.tmp 11) .skip (.exit 0))
def view_Choose_o21_0 : List WOp := .op (POper.mk (some 12) (.move (.tmp 10)) none) none :: .op (POper.mk (some 13) (.iaddr 34 (.tmp 8) (.tmp 10)) none) none :: .op (POper.mk (some 14) (.loadN 34 (.tmp 13)) none) none :: .op (POper.mk (some 7) (.alloc [(.d (.int .i64 0)), (.d (.int .i64 0)), (.d (.int .i64 0)), (.d (.int .i64 0)), (.d (.int .i64 0)), (.d (.int .i64 0)), (.d (.int .i64 0)), (.d (.int .i64 0)), (.d (.int .i64 0)), (.d (.bool false)), (.d (.bool false)), (.d (.bool false)), (.d (.int .i64 0)), (.d (.int .i64 0)), (.d (.int .i64 0)), (.d (.str (ByteArray.mk #[]))), .nilsl, (.d (.int .i64 0)), (.d (.int .i64 0)), (.d (.int .i64 0)), (.d (.bool false)), (.d (.bool false)), (.d (.int .i64 0)), (.d (.int .i64 0)), (.d (.int .i64 0)), (.d (.int .i64 0)), (.d (.int .i64 0)), (.d (.int .i64 0)), (.d (.int .i64 0)), (.d (.int .i64 0)), (.d (.int .i64 0)), (.d (.bool false)), .nilsl, .nilsl]) none) none :: .op (POper.mk (some 6) (.move (.tmp 12)) none) none :: .op (POper.mk none (.store 34 (.tmp 7) (.tmp 14)) none) none :: []
def view_Choose_w21 : WC := (.region view_Choose_o21_0)
def view_Choose_o23_14 : List WOp := .op (POper.mk (some 29) (.pick (.tmp 21) (.const (.bool true)) (.tmp 28)) (some (18, true))) none :: .op (POper.mk (some 30) (.pick (.tmp 18) (.tmp 29) (.const (.bool false))) none) none :: []
def view_Choose_o23_0 : List WOp := .op (POper.mk (some 15) (.faddr 0 (.tmp 7)) none) none :: .op (POper.mk (some 16) (.load1 (.tmp 15)) none) none :: .op (POper.mk (some 17) (.bin .eql (.tmp 16) (.const (.int .i64 7))) none) none :: .op (POper.mk (some 18) (.move (.tmp 17)) none) none :: .op (POper.mk (some 19) (.move (.tmp 4)) (some (18, true))) none :: .op (POper.mk (some 20) (.bin .lss (.tmp 19) (.const (.int .i64 0))) (some (18, true))) none :: .op (POper.mk (some 21) (.move (.tmp 20)) (some (18, true))) none :: .op (POper.mk (some 22) (.move (.tmp 5)) (some (21, false))) none :: .op (POper.mk (some 23) (.loadN 34 (.tmp 7)) (some (21, false))) none :: .op (POper.mk (some 24) (.move (.tmp 0)) (some (21, false))) none :: .op (POper.mk (some 25) (.move (.tmp 4)) (some (21, false))) none :: .op (POper.mk (some 26) (.iaddr 34 (.tmp 24) (.tmp 25)) (some (21, false))) none :: .op (POper.mk (some 27) (.loadN 34 (.tmp 26)) (some (21, false))) none :: .op (POper.mk (some 28) (.callv (.tmp 22) [(.tmp 23), (.tmp 27)]) (some (21, false))) none :: view_Choose_o23_14
def view_Choose_e23 : List (List Nat) := [[], [0], [1, 0], [2, 1, 0], [3, 2, 1, 0], [4, 3, 2, 1, 0], [5, 4, 3, 2, 1, 0], [6, 5, 4, 3, 2, 1, 0], [6, 5, 4, 3, 2, 1, 0], [6, 5, 4, 3, 2, 1, 0], [6, 5, 4, 3, 2, 1, 0], [9, 6, 5, 4, 3, 2, 1, 0, 10], [11, 9, 6, 5, 4, 3, 2, 1, 0, 10], [7, 6, 5, 4, 3, 2, 1, 0, 8, 12, 11, 9, 10], [6, 5, 4, 3, 2, 1, 0, 13, 7, 8, 12, 11, 9, 10], [3, 2, 1, 0, 14, 6, 5, 4, 13, 7, 8, 12, 11, 9, 10]]
def view_Choose_w23 : WC := (.dregion view_Choose_o23_0 view_Choose_e23)
def view_Choose_o25_0 : List WOp := .op (POper.mk (some 31) (.move (.tmp 6)) none) none :: .op (POper.mk (some 4) (.move (.tmp 31)) none) none :: []
def view_Choose_w25 : WC := (.region view_Choose_o25_0)
def view_Choose_w24 : WC := (.cond (.tmp 30) view_Choose_w25 .skip)
def view_Choose_w22 : WC := (.seq view_Choose_w23 (.ann [.mask [0, 4, 5, 6, 8, 9, 10, 30], .gc] (.cut view_Choose_w24)))
def view_Choose_w20 : WC := (.seq view_Choose_w21 view_Choose_w22)
def view_Choose_w19 : WC := (.block 1 view_Choose_w20)
def view_Choose_o27_0 : List WOp := .op (POper.mk (some 32) (.bin .add (.tmp 10) (.const (.int .i64 1))) none) none :: .op (POper.mk (some 10) (.move (.tmp 32)) none) none :: []
def view_Choose_w27 : WC := (.region view_Choose_o27_0)
def view_Choose_w18 : WC := (.seq view_Choose_w19 view_Choose_w27)
def view_Choose_w14 : WC := (.seq view_Choose_w15 view_Choose_w18)
def view_Choose_w12 : WC := (.seq view_Choose_w13 view_Choose_w14)
def view_Choose_w11 : WC := (.loop [.mask [0, 4, 5, 8, 9, 10], .gc] view_Choose_w12)
def view_Choose_w10 : WC := (.block 0 (.ann [.mask [0, 4, 5, 8, 9, 10], .gc] view_Choose_w11))
def view_Choose_w8 : WC := (.seq view_Choose_w9 view_Choose_w10)
def view_Choose_o29_0 : List WOp := .op (POper.mk (some 33) (.move (.tmp 4)) none) none :: .op (POper.mk (some 34) (.minmax true (.tmp 33) (.const (.int .i64 0))) none) none :: .op (POper.mk (some 35) (.move (.tmp 4)) none) none :: .op (POper.mk (some 36) (.bin .geq (.tmp 35) (.const (.int .i64 0))) none) none :: .op (POper.mk (some 2) (.move (.tmp 34)) none) none :: .op (POper.mk (some 3) (.move (.tmp 36)) none) none :: []
def view_Choose_w29 : WC := (.region view_Choose_o29_0)
def view_Choose_w28 : WC := (.seq view_Choose_w29 .ret)
def view_Choose_w7 : WC := (.seq view_Choose_w8 view_Choose_w28)
def view_Choose_w5 : WC := (.seq view_Choose_w6 view_Choose_w7)
def view_Choose_w3 : WC := (.seq view_Choose_w4 view_Choose_w5)
def view_Choose_w1 : WC := (.seq view_Choose_w2 view_Choose_w3)
theorem view_Choose_rc : resolveC Try.prog [] (Try.f19.body.getD .skip) = some (WC.er view_Choose_w1) := by kernel_rfl
theorem view_Choose_rr : resolveR Try.prog Try.f19.results.toList = some [(.move (.tmp 2)), (.move (.tmp 3))] := by kernel_rfl
def view_Choose (l0 : List eR0.T) (Q : (Int × Bool) → Prop) : Prop := Run Try.prog 0 (FinS Try.prog 0 Try.f19 (view_Choose_R Q)) [.code view_Choose_w1] [(.sl eR0 l0), .und, .und, .und, .und, .und, .und, .und, .und, .und, .und, .und, .und, .und, .und, .und, .und, .und, .und, .und, .und, .und, .und, .und, .und, .und, .und, .und, .und, .und, .und, .und, .und, .und, .und, .und, .und] []
def view_Choose_l1 (l0 : List eR0.T) (best1 : Int) (x2 : Int) (Q : (Int × Bool) → Prop) : Prop := Run Try.prog 0 (FinS Try.prog 0 Try.f19 (view_Choose_R Q)) [.lp [.mask [0, 4, 5, 8, 9, 10], .gc] view_Choose_w12, .bend 0, .code view_Choose_w28] [(.sl eR0 l0), .dead, .dead, .dead, (.int .i64 best1), (.fn 36 [] []), .dead, .dead, (.sl eR0 l0), (.int .i64 (l0.length : Int)), (.int .i64 x2), .dead, .dead, .dead, .dead, .dead, .dead, .dead, .dead, .dead, .dead, .dead, .dead, .dead, .dead, .dead, .dead, .dead, .dead, .dead, .dead, .dead, .dead, .dead, .dead, .dead, .dead] []
def view_Choose_k2 (l0 : List eR0.T) (best1 : Int) (x2 : Int) (x3 : Bool) (Q : (Int × Bool) → Prop) : Prop := Run Try.prog 0 (FinS Try.prog 0 Try.f19 (view_Choose_R Q)) [.code view_Choose_w24, .bend 1, .code view_Choose_w27, .lp [.mask [0, 4, 5, 8, 9, 10], .gc] view_Choose_w12, .bend 0, .code view_Choose_w28] [(.sl eR0 l0), .dead, .dead, .dead, (.int .i64 best1), (.fn 36 [] []), (.int .i64 x2), .dead, (.sl eR0 l0), (.int .i64 (l0.length : Int)), (.int .i64 x2), .dead, .dead, .dead, .dead, .dead, .dead, .dead, .dead, .dead, .dead, .dead, .dead, .dead, .dead, .dead, .dead, .dead, .dead, .dead, (.bool x3), .dead, .dead, .dead, .dead, .dead, .dead] []
def view_Choose_c1 (l0 : List eR0.T) (best1 : Int) (x2 : Int) (Q : (Int × Bool) → Prop) : Prop := Run Try.prog 0 (FinS Try.prog 0 Try.f19 (view_Choose_R Q)) [.dops (.op (POper.mk (some 28) (.callv (.tmp 22) [(.tmp 23), (.tmp 27)]) none) none :: view_Choose_o23_14) view_Choose_e23 [([], []), ([], [0]), ([], []), ([], []), ([], []), ([], []), ([], []), ([], []), ([], [0]), ([], []), ([], []), ([], []), ([], [])], .code (.ann [.mask [0, 4, 5, 6, 8, 9, 10, 30], .gc] (.cut view_Choose_w24)), .bend 1, .code view_Choose_w27, .lp [.mask [0, 4, 5, 8, 9, 10], .gc] view_Choose_w12, .bend 0, .code view_Choose_w28] [(.sl eR0 l0), .dead, .dead, .dead, (.int .i64 best1), (.fn 36 [] []), (.int .i64 x2), (.ptr 0 0), (.sl eR0 l0), (.int .i64 (l0.length : Int)), (.int .i64 x2), (.bool true), (.int .i64 x2), (.fp eR0 (rd eR0 l0 x2.toNat) 0), (.agg [(.int .i64 ((rd eR0 l0 x2.toNat).1)), (.int .i64 ((rd eR0 l0 x2.toNat).2.1)), (.int .i64 ((rd eR0 l0 x2.toNat).2.2.1)), (.int .i64 ((rd eR0 l0 x2.toNat).2.2.2.1)), (.int .i64 ((rd eR0 l0 x2.toNat).2.2.2.2.1)), (.int .i64 ((rd eR0 l0 x2.toNat).2.2.2.2.2.1)), (.int .i64 ((rd eR0 l0 x2.toNat).2.2.2.2.2.2.1)), (.int .i64 ((rd eR0 l0 x2.toNat).2.2.2.2.2.2.2.1)), (.int .i64 ((rd eR0 l0 x2.toNat).2.2.2.2.2.2.2.2.1)), (.bool ((rd eR0 l0 x2.toNat).2.2.2.2.2.2.2.2.2.1)), (.bool ((rd eR0 l0 x2.toNat).2.2.2.2.2.2.2.2.2.2.1)), (.bool ((rd eR0 l0 x2.toNat).2.2.2.2.2.2.2.2.2.2.2.1)), (.int .i64 ((rd eR0 l0 x2.toNat).2.2.2.2.2.2.2.2.2.2.2.2.1)), (.int .i64 ((rd eR0 l0 x2.toNat).2.2.2.2.2.2.2.2.2.2.2.2.2.1)), (.int .i64 ((rd eR0 l0 x2.toNat).2.2.2.2.2.2.2.2.2.2.2.2.2.2.1)), (.str ((rd eR0 l0 x2.toNat).2.2.2.2.2.2.2.2.2.2.2.2.2.2.2.1)), (.sl eR1 ((rd eR0 l0 x2.toNat).2.2.2.2.2.2.2.2.2.2.2.2.2.2.2.2.1)), (.int .i64 ((rd eR0 l0 x2.toNat).2.2.2.2.2.2.2.2.2.2.2.2.2.2.2.2.2.1)), (.int .i64 ((rd eR0 l0 x2.toNat).2.2.2.2.2.2.2.2.2.2.2.2.2.2.2.2.2.2.1)), (.int .i64 ((rd eR0 l0 x2.toNat).2.2.2.2.2.2.2.2.2.2.2.2.2.2.2.2.2.2.2.1)), (.bool ((rd eR0 l0 x2.toNat).2.2.2.2.2.2.2.2.2.2.2.2.2.2.2.2.2.2.2.2.1)), (.bool ((rd eR0 l0 x2.toNat).2.2.2.2.2.2.2.2.2.2.2.2.2.2.2.2.2.2.2.2.2.1)), (.int .i64 ((rd eR0 l0 x2.toNat).2.2.2.2.2.2.2.2.2.2.2.2.2.2.2.2.2.2.2.2.2.2.1)), (.int .i64 ((rd eR0 l0 x2.toNat).2.2.2.2.2.2.2.2.2.2.2.2.2.2.2.2.2.2.2.2.2.2.2.1)), (.int .i64 ((rd eR0 l0 x2.toNat).2.2.2.2.2.2.2.2.2.2.2.2.2.2.2.2.2.2.2.2.2.2.2.2.1)), (.int .i64 ((rd eR0 l0 x2.toNat).2.2.2.2.2.2.2.2.2.2.2.2.2.2.2.2.2.2.2.2.2.2.2.2.2.1)), (.int .i64 ((rd eR0 l0 x2.toNat).2.2.2.2.2.2.2.2.2.2.2.2.2.2.2.2.2.2.2.2.2.2.2.2.2.2.1)), (.int .i64 ((rd eR0 l0 x2.toNat).2.2.2.2.2.2.2.2.2.2.2.2.2.2.2.2.2.2.2.2.2.2.2.2.2.2.2.1)), (.int .i64 ((rd eR0 l0 x2.toNat).2.2.2.2.2.2.2.2.2.2.2.2.2.2.2.2.2.2.2.2.2.2.2.2.2.2.2.2.1)), (.int .i64 ((rd eR0 l0 x2.toNat).2.2.2.2.2.2.2.2.2.2.2.2.2.2.2.2.2.2.2.2.2.2.2.2.2.2.2.2.2.1)), (.int .i64 ((rd eR0 l0 x2.toNat).2.2.2.2.2.2.2.2.2.2.2.2.2.2.2.2.2.2.2.2.2.2.2.2.2.2.2.2.2.2.1)), (.bool ((rd eR0 l0 x2.toNat).2.2.2.2.2.2.2.2.2.2.2.2.2.2.2.2.2.2.2.2.2.2.2.2.2.2.2.2.2.2.2.1)), (.sl eR2 ((rd eR0 l0 x2.toNat).2.2.2.2.2.2.2.2.2.2.2.2.2.2.2.2.2.2.2.2.2.2.2.2.2.2.2.2.2.2.2.2.1)), (.sl eI64 ((rd eR0 l0 x2.toNat).2.2.2.2.2.2.2.2.2.2.2.2.2.2.2.2.2.2.2.2.2.2.2.2.2.2.2.2.2.2.2.2.2))]), (.ptr 0 0), (.int .i64 ((rd eR0 l0 x2.toNat).1)), (.bool (((rd eR0 l0 x2.toNat).1) == 7)), (.bool true), (.int .i64 best1), (.bool (decide (best1 < 0))), (.bool false), (.fn 36 [] []), (.agg [(.int .i64 ((rd eR0 l0 x2.toNat).1)), (.int .i64 ((rd eR0 l0 x2.toNat).2.1)), (.int .i64 ((rd eR0 l0 x2.toNat).2.2.1)), (.int .i64 ((rd eR0 l0 x2.toNat).2.2.2.1)), (.int .i64 ((rd eR0 l0 x2.toNat).2.2.2.2.1)), (.int .i64 ((rd eR0 l0 x2.toNat).2.2.2.2.2.1)), (.int .i64 ((rd eR0 l0 x2.toNat).2.2.2.2.2.2.1)), (.int .i64 ((rd eR0 l0 x2.toNat).2.2.2.2.2.2.2.1)), (.int .i64 ((rd eR0 l0 x2.toNat).2.2.2.2.2.2.2.2.1)), (.bool ((rd eR0 l0 x2.toNat).2.2.2.2.2.2.2.2.2.1)), (.bool ((rd eR0 l0 x2.toNat).2.2.2.2.2.2.2.2.2.2.1)), (.bool ((rd eR0 l0 x2.toNat).2.2.2.2.2.2.2.2.2.2.2.1)), (.int .i64 ((rd eR0 l0 x2.toNat).2.2.2.2.2.2.2.2.2.2.2.2.1)), (.int .i64 ((rd eR0 l0 x2.toNat).2.2.2.2.2.2.2.2.2.2.2.2.2.1)), (.int .i64 ((rd eR0 l0 x2.toNat).2.2.2.2.2.2.2.2.2.2.2.2.2.2.1)), (.str ((rd eR0 l0 x2.toNat).2.2.2.2.2.2.2.2.2.2.2.2.2.2.2.1)), (.sl eR1 ((rd eR0 l0 x2.toNat).2.2.2.2.2.2.2.2.2.2.2.2.2.2.2.2.1)), (.int .i64 ((rd eR0 l0 x2.toNat).2.2.2.2.2.2.2.2.2.2.2.2.2.2.2.2.2.1)), (.int .i64 ((rd eR0 l0 x2.toNat).2.2.2.2.2.2.2.2.2.2.2.2.2.2.2.2.2.2.1)), (.int .i64 ((rd eR0 l0 x2.toNat).2.2.2.2.2.2.2.2.2.2.2.2.2.2.2.2.2.2.2.1)), (.bool ((rd eR0 l0 x2.toNat).2.2.2.2.2.2.2.2.2.2.2.2.2.2.2.2.2.2.2.2.1)), (.bool ((rd eR0 l0 x2.toNat).2.2.2.2.2.2.2.2.2.2.2.2.2.2.2.2.2.2.2.2.2.1)), (.int .i64 ((rd eR0 l0 x2.toNat).2.2.2.2.2.2.2.2.2.2.2.2.2.2.2.2.2.2.2.2.2.2.1)), (.int .i64 ((rd eR0 l0 x2.toNat).2.2.2.2.2.2.2.2.2.2.2.2.2.2.2.2.2.2.2.2.2.2.2.1)), (.int .i64 ((rd eR0 l0 x2.toNat).2.2.2.2.2.2.2.2.2.2.2.2.2.2.2.2.2.2.2.2.2.2.2.2.1)), (.int .i64 ((rd eR0 l0 x2.toNat).2.2.2.2.2.2.2.2.2.2.2.2.2.2.2.2.2.2.2.2.2.2.2.2.2.1)), (.int .i64 ((rd eR0 l0 x2.toNat).2.2.2.2.2.2.2.2.2.2.2.2.2.2.2.2.2.2.2.2.2.2.2.2.2.2.1)), (.int .i64 ((rd eR0 l0 x2.toNat).2.2.2.2.2.2.2.2.2.2.2.2.2.2.2.2.2.2.2.2.2.2.2.2.2.2.2.1)), (.int .i64 ((rd eR0 l0 x2.toNat).2.2.2.2.2.2.2.2.2.2.2.2.2.2.2.2.2.2.2.2.2.2.2.2.2.2.2.2.1)), (.int .i64 ((rd eR0 l0 x2.toNat).2.2.2.2.2.2.2.2.2.2.2.2.2.2.2.2.2.2.2.2.2.2.2.2.2.2.2.2.2.1)), (.int .i64 ((rd eR0 l0 x2.toNat).2.2.2.2.2.2.2.2.2.2.2.2.2.2.2.2.2.2.2.2.2.2.2.2.2.2.2.2.2.2.1)), (.bool ((rd eR0 l0 x2.toNat).2.2.2.2.2.2.2.2.2.2.2.2.2.2.2.2.2.2.2.2.2.2.2.2.2.2.2.2.2.2.2.1)), (.sl eR2 ((rd eR0 l0 x2.toNat).2.2.2.2.2.2.2.2.2.2.2.2.2.2.2.2.2.2.2.2.2.2.2.2.2.2.2.2.2.2.2.2.1)), (.sl eI64 ((rd eR0 l0 x2.toNat).2.2.2.2.2.2.2.2.2.2.2.2.2.2.2.2.2.2.2.2.2.2.2.2.2.2.2.2.2.2.2.2.2))]), (.sl eR0 l0), (.int .i64 best1), (.fp eR0 (rd eR0 l0 best1.toNat) 0), (.agg [(.int .i64 ((rd eR0 l0 best1.toNat).1)), (.int .i64 ((rd eR0 l0 best1.toNat).2.1)), (.int .i64 ((rd eR0 l0 best1.toNat).2.2.1)), (.int .i64 ((rd eR0 l0 best1.toNat).2.2.2.1)), (.int .i64 ((rd eR0 l0 best1.toNat).2.2.2.2.1)), (.int .i64 ((rd eR0 l0 best1.toNat).2.2.2.2.2.1)), (.int .i64 ((rd eR0 l0 best1.toNat).2.2.2.2.2.2.1)), (.int .i64 ((rd eR0 l0 best1.toNat).2.2.2.2.2.2.2.1)), (.int .i64 ((rd eR0 l0 best1.toNat).2.2.2.2.2.2.2.2.1)), (.bool ((rd eR0 l0 best1.toNat).2.2.2.2.2.2.2.2.2.1)), (.bool ((rd eR0 l0 best1.toNat).2.2.2.2.2.2.2.2.2.2.1)), (.bool ((rd eR0 l0 best1.toNat).2.2.2.2.2.2.2.2.2.2.2.1)), (.int .i64 ((rd eR0 l0 best1.toNat).2.2.2.2.2.2.2.2.2.2.2.2.1)), (.int .i64 ((rd eR0 l0 best1.toNat).2.2.2.2.2.2.2.2.2.2.2.2.2.1)), (.int .i64 ((rd eR0 l0 best1.toNat).2.2.2.2.2.2.2.2.2.2.2.2.2.2.1)), (.str ((rd eR0 l0 best1.toNat).2.2.2.2.2.2.2.2.2.2.2.2.2.2.2.1)), (.sl eR1 ((rd eR0 l0 best1.toNat).2.2.2.2.2.2.2.2.2.2.2.2.2.2.2.2.1)), (.int .i64 ((rd eR0 l0 best1.toNat).2.2.2.2.2.2.2.2.2.2.2.2.2.2.2.2.2.1)), (.int .i64 ((rd eR0 l0 best1.toNat).2.2.2.2.2.2.2.2.2.2.2.2.2.2.2.2.2.2.1)), (.int .i64 ((rd eR0 l0 best1.toNat).2.2.2.2.2.2.2.2.2.2.2.2.2.2.2.2.2.2.2.1)), (.bool ((rd eR0 l0 best1.toNat).2.2.2.2.2.2.2.2.2.2.2.2.2.2.2.2.2.2.2.2.1)), (.bool ((rd eR0 l0 best1.toNat).2.2.2.2.2.2.2.2.2.2.2.2.2.2.2.2.2.2.2.2.2.1)), (.int .i64 ((rd eR0 l0 best1.toNat).2.2.2.2.2.2.2.2.2.2.2.2.2.2.2.2.2.2.2.2.2.2.1)), (.int .i64 ((rd eR0 l0 best1.toNat).2.2.2.2.2.2.2.2.2.2.2.2.2.2.2.2.2.2.2.2.2.2.2.1)), (.int .i64 ((rd eR0 l0 best1.toNat).2.2.2.2.2.2.2.2.2.2.2.2.2.2.2.2.2.2.2.2.2.2.2.2.1)), (.int .i64 ((rd eR0 l0 best1.toNat).2.2.2.2.2.2.2.2.2.2.2.2.2.2.2.2.2.2.2.2.2.2.2.2.2.1)), (.int .i64 ((rd eR0 l0 best1.toNat).2.2.2.2.2.2.2.2.2.2.2.2.2.2.2.2.2.2.2.2.2.2.2.2.2.2.1)), (.int .i64 ((rd eR0 l0 best1.toNat).2.2.2.2.2.2.2.2.2.2.2.2.2.2.2.2.2.2.2.2.2.2.2.2.2.2.2.1)), (.int .i64 ((rd eR0 l0 best1.toNat).2.2.2.2.2.2.2.2.2.2.2.2.2.2.2.2.2.2.2.2.2.2.2.2.2.2.2.2.1)), (.int .i64 ((rd eR0 l0 best1.toNat).2.2.2.2.2.2.2.2.2.2.2.2.2.2.2.2.2.2.2.2.2.2.2.2.2.2.2.2.2.1)), (.int .i64 ((rd eR0 l0 best1.toNat).2.2.2.2.2.2.2.2.2.2.2.2.2.2.2.2.2.2.2.2.2.2.2.2.2.2.2.2.2.2.1)), (.bool ((rd eR0 l0 best1.toNat).2.2.2.2.2.2.2.2.2.2.2.2.2.2.2.2.2.2.2.2.2.2.2.2.2.2.2.2.2.2.2.1)), (.sl eR2 ((rd eR0 l0 best1.toNat).2.2.2.2.2.2.2.2.2.2.2.2.2.2.2.2.2.2.2.2.2.2.2.2.2.2.2.2.2.2.2.2.1)), (.sl eI64 ((rd eR0 l0 best1.toNat).2.2.2.2.2.2.2.2.2.2.2.2.2.2.2.2.2.2.2.2.2.2.2.2.2.2.2.2.2.2.2.2.2))]), .dead, .dead, .dead, .dead, .dead, .dead, .dead, .dead, .dead] [(.arr [(.int .i64 ((rd eR0 l0 x2.toNat).1)), (.int .i64 ((rd eR0 l0 x2.toNat).2.1)), (.int .i64 ((rd eR0 l0 x2.toNat).2.2.1)), (.int .i64 ((rd eR0 l0 x2.toNat).2.2.2.1)), (.int .i64 ((rd eR0 l0 x2.toNat).2.2.2.2.1)), (.int .i64 ((rd eR0 l0 x2.toNat).2.2.2.2.2.1)), (.int .i64 ((rd eR0 l0 x2.toNat).2.2.2.2.2.2.1)), (.int .i64 ((rd eR0 l0 x2.toNat).2.2.2.2.2.2.2.1)), (.int .i64 ((rd eR0 l0 x2.toNat).2.2.2.2.2.2.2.2.1)), (.bool ((rd eR0 l0 x2.toNat).2.2.2.2.2.2.2.2.2.1)), (.bool ((rd eR0 l0 x2.toNat).2.2.2.2.2.2.2.2.2.2.1)), (.bool ((rd eR0 l0 x2.toNat).2.2.2.2.2.2.2.2.2.2.2.1)), (.int .i64 ((rd eR0 l0 x2.toNat).2.2.2.2.2.2.2.2.2.2.2.2.1)), (.int .i64 ((rd eR0 l0 x2.toNat).2.2.2.2.2.2.2.2.2.2.2.2.2.1)), (.int .i64 ((rd eR0 l0 x2.toNat).2.2.2.2.2.2.2.2.2.2.2.2.2.2.1)), (.str ((rd eR0 l0 x2.toNat).2.2.2.2.2.2.2.2.2.2.2.2.2.2.2.1)), (.sl eR1 ((rd eR0 l0 x2.toNat).2.2.2.2.2.2.2.2.2.2.2.2.2.2.2.2.1)), (.int .i64 ((rd eR0 l0 x2.toNat).2.2.2.2.2.2.2.2.2.2.2.2.2.2.2.2.2.1)), (.int .i64 ((rd eR0 l0 x2.toNat).2.2.2.2.2.2.2.2.2.2.2.2.2.2.2.2.2.2.1)), (.int .i64 ((rd eR0 l0 x2.toNat).2.2.2.2.2.2.2.2.2.2.2.2.2.2.2.2.2.2.2.1)), (.bool ((rd eR0 l0 x2.toNat).2.2.2.2.2.2.2.2.2.2.2.2.2.2.2.2.2.2.2.2.1)), (.bool ((rd eR0 l0 x2.toNat).2.2.2.2.2.2.2.2.2.2.2.2.2.2.2.2.2.2.2.2.2.1)), (.int .i64 ((rd eR0 l0 x2.toNat).2.2.2.2.2.2.2.2.2.2.2.2.2.2.2.2.2.2.2.2.2.2.1)), (.int .i64 ((rd eR0 l0 x2.toNat).2.2.2.2.2.2.2.2.2.2.2.2.2.2.2.2.2.2.2.2.2.2.2.1)), (.int .i64 ((rd eR0 l0 x2.toNat).2.2.2.2.2.2.2.2.2.2.2.2.2.2.2.2.2.2.2.2.2.2.2.2.1)), (.int .i64 ((rd eR0 l0 x2.toNat).2.2.2.2.2.2.2.2.2.2.2.2.2.2.2.2.2.2.2.2.2.2.2.2.2.1)), (.int .i64 ((rd eR0 l0 x2.toNat).2.2.2.2.2.2.2.2.2.2.2.2.2.2.2.2.2.2.2.2.2.2.2.2.2.2.1)), (.int .i64 ((rd eR0 l0 x2.toNat).2.2.2.2.2.2.2.2.2.2.2.2.2.2.2.2.2.2.2.2.2.2.2.2.2.2.2.1)), (.int .i64 ((rd eR0 l0 x2.toNat).2.2.2.2.2.2.2.2.2.2.2.2.2.2.2.2.2.2.2.2.2.2.2.2.2.2.2.2.1)), (.int .i64 ((rd eR0 l0 x2.toNat).2.2.2.2.2.2.2.2.2.2.2.2.2.2.2.2.2.2.2.2.2.2.2.2.2.2.2.2.2.1)), (.int .i64 ((rd eR0 l0 x2.toNat).2.2.2.2.2.2.2.2.2.2.2.2.2.2.2.2.2.2.2.2.2.2.2.2.2.2.2.2.2.2.1)), (.bool ((rd eR0 l0 x2.toNat).2.2.2.2.2.2.2.2.2.2.2.2.2.2.2.2.2.2.2.2.2.2.2.2.2.2.2.2.2.2.2.1)), (.sl eR2 ((rd eR0 l0 x2.toNat).2.2.2.2.2.2.2.2.2.2.2.2.2.2.2.2.2.2.2.2.2.2.2.2.2.2.2.2.2.2.2.2.1)), (.sl eI64 ((rd eR0 l0 x2.toNat).2.2.2.2.2.2.2.2.2.2.2.2.2.2.2.2.2.2.2.2.2.2.2.2.2.2.2.2.2.2.2.2.2))])]
theorem view_Choose_step (l0 : List eR0.T) {Q : (Int × Bool) → Prop} (h :
    view_Choose_l1 l0 (-1) 0 Q) : view_Choose l0 Q :=
  adv_go 6000 mixed view_Choose_rr (fa := [.gc]) (by kernel_rfl) h
theorem view_Choose_l1_step (l0 : List eR0.T) (best1 : Int) (x2 : Int) {Q : (Int × Bool) → Prop} (h :
    Br (decide (x2 < (l0.length : Int)))
      ((0 ≤ x2 ∧ x2.toNat < l0.length) ∧
      Br (((rd eR0 l0 x2.toNat).1) == 7)
        (Br (decide (best1 < 0))
          (view_Choose_k2 l0 best1 x2 true Q)
          ((0 ≤ best1 ∧ best1.toNat < l0.length) ∧
          view_Choose_c1 l0 best1 x2 Q))
        (view_Choose_k2 l0 best1 x2 false Q))
      (view_Choose_ret Q (maxI best1 0, decide (best1 ≥ 0)))) : view_Choose_l1 l0 best1 x2 Q :=
  run_loop (adv_go 6000 mixed view_Choose_rr (fa := [.gc]) (by kernel_rfl) h)
theorem view_Choose_k2_step (l0 : List eR0.T) (best1 : Int) (x2 : Int) (x3 : Bool) {Q : (Int × Bool) → Prop} (h :
    Br (x3)
      (view_Choose_l1 l0 x2 (addK .i64 x2 1) Q)
      (view_Choose_l1 l0 best1 (addK .i64 x2 1) Q)) : view_Choose_k2 l0 best1 x2 x3 Q :=
  adv_go 6000 mixed view_Choose_rr (fa := [.gc]) (by kernel_rfl) h
theorem view_Choose_c1_step (l0 : List eR0.T) (best1 : Int) (x2 : Int) {Q : (Int × Bool) → Prop} (r4 : Bool) (hc : view_Choose_f1 (rd eR0 l0 x2.toNat) (rd eR0 l0 best1.toNat) (fun x => x = r4)) (h :
    view_Choose_k2 l0 best1 x2 r4 Q) : view_Choose_c1 l0 best1 x2 Q :=
  run_dcallv rfl (tout := (lendOut [] 1 (view_Choose_f1_enc r4) (view_Choose_f1_obj r4))) (call_typed [] (view_Choose_f1_ok (rd eR0 l0 x2.toNat) (rd eR0 l0 best1.toNat) r4 hc) (by kernel_rfl) (by kernel_rfl) (by kernel_rfl)) (adv_go 6000 mixed view_Choose_rr (fa := [.gc]) (by kernel_rfl) h)
theorem view_Choose_act (l0 : List eR0.T) {Q : (Int × Bool) → Prop} (h : view_Choose l0 Q) : ACT Try.prog 19 [(.sl eR0 l0)] [] (view_Choose_R Q) :=
  act_go Try.func19 (by rfl) (by kernel_rfl) view_Choose_rc (n0 := 0) rfl (by kernel_rfl) h
theorem view_Choose_ok (l0 : List eR0.T) (r : (Int × Bool)) (h : view_Choose l0 (fun x => x = r)) : ACT Try.prog 19 [(.sl eR0 l0)] [] (fun tv tL => tv = view_Choose_enc r ∧ tL = view_Choose_obj r) := act_det (view_Choose_act l0 h)

/-! drover/droverref08.Choose -/
def ref08_Choose_enc  : (Int × Bool) → TV := fun r => (.tup [(.int .i64 r.1), (.bool r.2)])
def ref08_Choose_obj  : (Int × Bool) → List TO := fun r => []
def ref08_Choose_R  (Q : (Int × Bool) → Prop) : TV → List TO → Prop := RetR (ref08_Choose_enc) (ref08_Choose_obj) Q
def ref08_Choose_ret  (Q : (Int × Bool) → Prop) (r : (Int × Bool)) : Prop := ref08_Choose_R Q (ref08_Choose_enc r) (ref08_Choose_obj r)
theorem ref08_Choose_ret.intro  {Q : (Int × Bool) → Prop} {r : (Int × Bool)} (h : Q r) : ref08_Choose_ret Q r := RetR.intro h
def ref08_Choose_o2_0 : List WOp := .op (POper.mk (some 2) (.move (.const (.int .i64 0))) none) none :: .op (POper.mk (some 3) (.move (.const (.bool false))) none) none :: []
def ref08_Choose_w2 : WC := (.region ref08_Choose_o2_0)
def ref08_Choose_o4_0 : List WOp := .op (POper.mk (some 4) (.move (.const (.int .i64 (-1)))) none) none :: []
def ref08_Choose_w4 : WC := (.region ref08_Choose_o4_0)
def ref08_Choose_o7_0 : List WOp := .op (POper.mk (some 7) (.move (.tmp 0)) none) none :: .op (POper.mk (some 8) (.len (.tmp 7)) none) none :: .op (POper.mk (some 9) (.move (.const (.int .i64 0))) none) none :: []
def ref08_Choose_w7 : WC := (.region ref08_Choose_o7_0)
def ref08_Choose_o11_0 : List WOp := .op (POper.mk (some 10) (.bin .lss (.tmp 9) (.tmp 8)) none) none :: []
def ref08_Choose_w11 : WC := (.region ref08_Choose_o11_0)
def ref08_Choose_w13 : WC := (.cond (.tmp 10) .skip (.exit 0))
def ref08_Choose_o19_0 : List WOp := .op (POper.mk (some 11) (.move (.tmp 9)) none) none :: .op (POper.mk (some 12) (.iaddr 34 (.tmp 7) (.tmp 9)) none) none :: .op (POper.mk (some 13) (.loadN 34 (.tmp 12)) none) none :: .op (POper.mk (some 6) (.alloc [(.d (.int .i64 0)), (.d (.int .i64 0)), (.d (.int .i64 0)), (.d (.int .i64 0)), (.d (.int .i64 0)), (.d (.int .i64 0)), (.d (.int .i64 0)), (.d (.int .i64 0)), (.d (.int .i64 0)), (.d (.bool false)), (.d (.bool false)), (.d (.bool false)), (.d (.int .i64 0)), (.d (.int .i64 0)), (.d (.int .i64 0)), (.d (.str (ByteArray.mk #[]))), .nilsl, (.d (.int .i64 0)), (.d (.int .i64 0)), (.d (.int .i64 0)), (.d (.bool false)), (.d (.bool false)), (.d (.int .i64 0)), (.d (.int .i64 0)), (.d (.int .i64 0)), (.d (.int .i64 0)), (.d (.int .i64 0)), (.d (.int .i64 0)), (.d (.int .i64 0)), (.d (.int .i64 0)), (.d (.int .i64 0)), (.d (.bool false)), .nilsl, .nilsl]) none) none :: .op (POper.mk (some 5) (.move (.tmp 11)) none) none :: .op (POper.mk none (.store 34 (.tmp 6) (.tmp 13)) none) none :: []
def ref08_Choose_w19 : WC := (.region ref08_Choose_o19_0)
def ref08_Choose_o22_0 : List WOp := .op (POper.mk (some 14) (.faddr 0 (.tmp 6)) none) none :: .op (POper.mk (some 15) (.load1 (.tmp 14)) none) none :: .op (POper.mk (some 16) (.bin .neq (.tmp 15) (.const (.int .i64 7))) none) none :: []
def ref08_Choose_w22 : WC := (.region ref08_Choose_o22_0)
def ref08_Choose_w23 : WC := (.cond (.tmp 16) (.exit 1) .skip)
def ref08_Choose_w21 : WC := (.seq ref08_Choose_w22 ref08_Choose_w23)
def ref08_Choose_o27_0 : List WOp := .op (POper.mk (some 17) (.move (.tmp 4)) none) none :: .op (POper.mk (some 18) (.bin .lss (.tmp 17) (.const (.int .i64 0))) none) none :: .op (POper.mk (some 19) (.move (.tmp 18)) none) none :: .op (POper.mk (some 20) (.faddr 4 (.tmp 6)) (some (19, false))) none :: .op (POper.mk (some 21) (.load1 (.tmp 20)) (some (19, false))) none :: .op (POper.mk (some 22) (.move (.tmp 0)) (some (19, false))) none :: .op (POper.mk (some 23) (.move (.tmp 4)) (some (19, false))) none :: .op (POper.mk (some 24) (.iaddr 34 (.tmp 22) (.tmp 23)) (some (19, false))) none :: .op (POper.mk (some 25) (.faddr 4 (.tmp 24)) (some (19, false))) none :: .op (POper.mk (some 26) (.load1 (.tmp 25)) (some (19, false))) none :: .op (POper.mk (some 27) (.bin .gtr (.tmp 21) (.tmp 26)) (some (19, false))) none :: .op (POper.mk (some 28) (.pick (.tmp 19) (.const (.bool true)) (.tmp 27)) none) none :: .op (POper.mk (some 29) (.move (.tmp 28)) none) none :: .op (POper.mk (some 30) (.faddr 4 (.tmp 6)) (some (29, false))) none :: .op (POper.mk (some 31) (.load1 (.tmp 30)) (some (29, false))) none :: .op (POper.mk (some 32) (.move (.tmp 0)) (some (29, false))) none :: .op (POper.mk (some 33) (.move (.tmp 4)) (some (29, false))) none :: .op (POper.mk (some 34) (.iaddr 34 (.tmp 32) (.tmp 33)) (some (29, false))) none :: .op (POper.mk (some 35) (.faddr 4 (.tmp 34)) (some (29, false))) none :: .op (POper.mk (some 36) (.load1 (.tmp 35)) (some (29, false))) none :: .op (POper.mk (some 37) (.bin .eql (.tmp 31) (.tmp 36)) (some (29, false))) none :: .op (POper.mk (some 38) (.move (.tmp 37)) (some (29, false))) none :: .op (POper.mk (some 39) (.faddr 32 (.tmp 6)) (some (38, true))) none :: .op (POper.mk (some 40) (.load1 (.tmp 39)) (some (38, true))) none :: .op (POper.mk (some 41) (.len (.tmp 40)) (some (38, true))) none :: .op (POper.mk (some 42) (.move (.tmp 0)) (some (38, true))) none :: .op (POper.mk (some 43) (.move (.tmp 4)) (some (38, true))) none :: .op (POper.mk (some 44) (.iaddr 34 (.tmp 42) (.tmp 43)) (some (38, true))) none :: .op (POper.mk (some 45) (.faddr 32 (.tmp 44)) (some (38, true))) none :: .op (POper.mk (some 46) (.load1 (.tmp 45)) (some (38, true))) none :: .op (POper.mk (some 47) (.len (.tmp 46)) (some (38, true))) none :: .op (POper.mk (some 48) (.bin .gtr (.tmp 41) (.tmp 47)) (some (38, true))) none :: .op (POper.mk (some 49) (.pick (.tmp 38) (.tmp 48) (.const (.bool false))) (some (29, false))) none :: .op (POper.mk (some 50) (.pick (.tmp 29) (.const (.bool true)) (.tmp 49)) none) none :: []
def ref08_Choose_e27 : List (List Nat) := [[], [0], [1, 0], [2, 1, 0], [3, 2, 1, 0], [2, 1, 0], [2, 1, 0], [5, 2, 1, 0, 6], [7, 5, 2, 1, 0, 6], [8, 7, 5, 2, 1, 0, 6], [4, 3, 2, 1, 0, 9, 8, 7, 5, 6], [2, 1, 0, 10, 4, 3, 9, 8, 7, 5, 6], [11, 2, 1, 0, 10, 4, 3, 9, 8, 7, 5, 6], [12, 11, 2, 1, 0, 10, 4, 3, 9, 8, 7, 5, 6], [13, 12, 11, 2, 1, 0, 10, 4, 3, 9, 8, 7, 5, 6], [12, 11, 2, 1, 0, 10, 4, 3, 9, 8, 7, 5, 6], [12, 11, 2, 1, 0, 10, 4, 3, 9, 8, 7, 5, 6], [15, 12, 11, 2, 1, 0, 10, 4, 3, 9, 8, 7, 5, 6, 16], [17, 15, 12, 11, 2, 1, 0, 10, 4, 3, 9, 8, 7, 5, 6, 16], [18, 17, 15, 12, 11, 2, 1, 0, 10, 4, 3, 9, 8, 7, 5, 6, 16], [14, 13, 12, 11, 2, 1, 0, 10, 4, 3, 9, 8, 7, 5, 6, 19, 18, 17, 15, 16], [20, 14, 13, 12, 11, 2, 1, 0, 10, 4, 3, 9, 8, 7, 5, 6, 19, 18, 17, 15, 16], [21, 20, 14, 13, 12, 11, 2, 1, 0, 10, 4, 3, 9, 8, 7, 5, 6, 19, 18, 17, 15, 16], [22, 21, 20, 14, 13, 12, 11, 2, 1, 0, 10, 4, 3, 9, 8, 7, 5, 6, 19, 18, 17, 15, 16], [23, 22, 21, 20, 14, 13, 12, 11, 2, 1, 0, 10, 4, 3, 9, 8, 7, 5, 6, 19, 18, 17, 15, 16], [21, 20, 14, 13, 12, 11, 2, 1, 0, 10, 4, 3, 9, 8, 7, 5, 6, 19, 18, 17, 15, 16], [21, 20, 14, 13, 12, 11, 2, 1, 0, 10, 4, 3, 9, 8, 7, 5, 6, 19, 18, 17, 15, 16], [25, 21, 20, 14, 13, 12, 11, 2, 1, 0, 10, 4, 3, 9, 8, 7, 5, 6, 19, 18, 17, 15, 16, 26], [27, 25, 21, 20, 14, 13, 12, 11, 2, 1, 0, 10, 4, 3, 9, 8, 7, 5, 6, 19, 18, 17, 15, 16, 26], [28, 27, 25, 21, 20, 14, 13, 12, 11, 2, 1, 0, 10, 4, 3, 9, 8, 7, 5, 6, 19, 18, 17, 15, 16, 26], [29, 28, 27, 25, 21, 20, 14, 13, 12, 11, 2, 1, 0, 10, 4, 3, 9, 8, 7, 5, 6, 19, 18, 17, 15, 16, 26], [24, 23, 22, 21, 20, 14, 13, 12, 11, 2, 1, 0, 10, 4, 3, 9, 8, 7, 5, 6, 19, 18, 17, 15, 16, 30, 29, 28, 27, 25, 26], [21, 20, 14, 13, 12, 11, 2, 1, 0, 10, 4, 3, 9, 8, 7, 5, 6, 19, 18, 17, 15, 16, 31, 24, 23, 22, 30, 29, 28, 27, 25, 26], [12, 11, 2, 1, 0, 10, 4, 3, 9, 8, 7, 5, 6, 32, 21, 20, 14, 13, 19, 18, 17, 15, 16, 31, 24, 23, 22, 30, 29, 28, 27, 25, 26]]
def ref08_Choose_w27 : WC := (.dregion ref08_Choose_o27_0 ref08_Choose_e27)
def ref08_Choose_o29_0 : List WOp := .op (POper.mk (some 51) (.move (.tmp 5)) none) none :: .op (POper.mk (some 4) (.move (.tmp 51)) none) none :: []
def ref08_Choose_w29 : WC := (.region ref08_Choose_o29_0)
def ref08_Choose_w28 : WC := (.cond (.tmp 50) ref08_Choose_w29 .skip)
def ref08_Choose_w26 : WC := (.seq ref08_Choose_w27 (.ann [.mask [0, 4, 5, 7, 8, 9, 50], .gc] (.cut ref08_Choose_w28)))
def ref08_Choose_w20 : WC := (.seq ref08_Choose_w21 ref08_Choose_w26)
def ref08_Choose_w18 : WC := (.seq ref08_Choose_w19 ref08_Choose_w20)
def ref08_Choose_w17 : WC := (.block 1 ref08_Choose_w18)
def ref08_Choose_o31_0 : List WOp := .op (POper.mk (some 52) (.bin .add (.tmp 9) (.const (.int .i64 1))) none) none :: .op (POper.mk (some 9) (.move (.tmp 52)) none) none :: []
def ref08_Choose_w31 : WC := (.region ref08_Choose_o31_0)
def ref08_Choose_w16 : WC := (.seq ref08_Choose_w17 ref08_Choose_w31)
def ref08_Choose_w12 : WC := (.seq ref08_Choose_w13 ref08_Choose_w16)
def ref08_Choose_w10 : WC := (.seq ref08_Choose_w11 ref08_Choose_w12)
def ref08_Choose_w9 : WC := (.loop [.mask [0, 4, 7, 8, 9], .gc] ref08_Choose_w10)
def ref08_Choose_w8 : WC := (.block 0 (.ann [.mask [0, 4, 7, 8, 9], .gc] ref08_Choose_w9))
def ref08_Choose_w6 : WC := (.seq ref08_Choose_w7 ref08_Choose_w8)
def ref08_Choose_o34_0 : List WOp := .op (POper.mk (some 53) (.move (.tmp 4)) none) none :: .op (POper.mk (some 54) (.bin .lss (.tmp 53) (.const (.int .i64 0))) none) none :: []
def ref08_Choose_w34 : WC := (.region ref08_Choose_o34_0)
def ref08_Choose_o37_0 : List WOp := .op (POper.mk (some 2) (.move (.const (.int .i64 0))) none) none :: .op (POper.mk (some 3) (.move (.const (.bool false))) none) none :: []
def ref08_Choose_w37 : WC := (.region ref08_Choose_o37_0)
def ref08_Choose_w36 : WC := (.seq ref08_Choose_w37 .ret)
def ref08_Choose_w35 : WC := (.cond (.tmp 54) ref08_Choose_w36 .skip)
def ref08_Choose_w33 : WC := (.seq ref08_Choose_w34 ref08_Choose_w35)
def ref08_Choose_o41_0 : List WOp := .op (POper.mk (some 55) (.move (.tmp 4)) none) none :: .op (POper.mk (some 2) (.move (.tmp 55)) none) none :: .op (POper.mk (some 3) (.move (.const (.bool true))) none) none :: []
def ref08_Choose_w41 : WC := (.region ref08_Choose_o41_0)
def ref08_Choose_w40 : WC := (.seq ref08_Choose_w41 .ret)
def ref08_Choose_w32 : WC := (.seq ref08_Choose_w33 ref08_Choose_w40)
def ref08_Choose_w5 : WC := (.seq ref08_Choose_w6 ref08_Choose_w32)
def ref08_Choose_w3 : WC := (.seq ref08_Choose_w4 ref08_Choose_w5)
def ref08_Choose_w1 : WC := (.seq ref08_Choose_w2 ref08_Choose_w3)
theorem ref08_Choose_rc : resolveC Try.prog [] (Try.f20.body.getD .skip) = some (WC.er ref08_Choose_w1) := by kernel_rfl
theorem ref08_Choose_rr : resolveR Try.prog Try.f20.results.toList = some [(.move (.tmp 2)), (.move (.tmp 3))] := by kernel_rfl
def ref08_Choose (l0 : List eR0.T) (Q : (Int × Bool) → Prop) : Prop := Run Try.prog 0 (FinS Try.prog 0 Try.f20 (ref08_Choose_R Q)) [.code ref08_Choose_w1] [(.sl eR0 l0), .und, .und, .und, .und, .und, .und, .und, .und, .und, .und, .und, .und, .und, .und, .und, .und, .und, .und, .und, .und, .und, .und, .und, .und, .und, .und, .und, .und, .und, .und, .und, .und, .und, .und, .und, .und, .und, .und, .und, .und, .und, .und, .und, .und, .und, .und, .und, .und, .und, .und, .und, .und, .und, .und, .und] []
def ref08_Choose_l1 (l0 : List eR0.T) (best1 : Int) (x2 : Int) (Q : (Int × Bool) → Prop) : Prop := Run Try.prog 0 (FinS Try.prog 0 Try.f20 (ref08_Choose_R Q)) [.lp [.mask [0, 4, 7, 8, 9], .gc] ref08_Choose_w10, .bend 0, .code ref08_Choose_w32] [(.sl eR0 l0), .dead, .dead, .dead, (.int .i64 best1), .dead, .dead, (.sl eR0 l0), (.int .i64 (l0.length : Int)), (.int .i64 x2), .dead, .dead, .dead, .dead, .dead, .dead, .dead, .dead, .dead, .dead, .dead, .dead, .dead, .dead, .dead, .dead, .dead, .dead, .dead, .dead, .dead, .dead, .dead, .dead, .dead, .dead, .dead, .dead, .dead, .dead, .dead, .dead, .dead, .dead, .dead, .dead, .dead, .dead, .dead, .dead, .dead, .dead, .dead, .dead, .dead, .dead] []
def ref08_Choose_k2 (l0 : List eR0.T) (best1 : Int) (x2 : Int) (x3 : Bool) (Q : (Int × Bool) → Prop) : Prop := Run Try.prog 0 (FinS Try.prog 0 Try.f20 (ref08_Choose_R Q)) [.code ref08_Choose_w28, .bend 1, .code ref08_Choose_w31, .lp [.mask [0, 4, 7, 8, 9], .gc] ref08_Choose_w10, .bend 0, .code ref08_Choose_w32] [(.sl eR0 l0), .dead, .dead, .dead, (.int .i64 best1), (.int .i64 x2), .dead, (.sl eR0 l0), (.int .i64 (l0.length : Int)), (.int .i64 x2), .dead, .dead, .dead, .dead, .dead, .dead, .dead, .dead, .dead, .dead, .dead, .dead, .dead, .dead, .dead, .dead, .dead, .dead, .dead, .dead, .dead, .dead, .dead, .dead, .dead, .dead, .dead, .dead, .dead, .dead, .dead, .dead, .dead, .dead, .dead, .dead, .dead, .dead, .dead, .dead, (.bool x3), .dead, .dead, .dead, .dead, .dead] []
theorem ref08_Choose_step (l0 : List eR0.T) {Q : (Int × Bool) → Prop} (h :
    ref08_Choose_l1 l0 (-1) 0 Q) : ref08_Choose l0 Q :=
  adv_go 6000 mixed ref08_Choose_rr (fa := [.gc]) (by kernel_rfl) h
theorem ref08_Choose_l1_step (l0 : List eR0.T) (best1 : Int) (x2 : Int) {Q : (Int × Bool) → Prop} (h :
    Br (decide (x2 < (l0.length : Int)))
      ((0 ≤ x2 ∧ x2.toNat < l0.length) ∧
      Br (((rd eR0 l0 x2.toNat).1) != 7)
        (ref08_Choose_l1 l0 best1 (addK .i64 x2 1) Q)
        (Br (decide (best1 < 0))
          (ref08_Choose_k2 l0 best1 x2 true Q)
          ((0 ≤ best1 ∧ best1.toNat < l0.length) ∧
          Br (decide (((rd eR0 l0 x2.toNat).2.2.2.2.1) > ((rd eR0 l0 best1.toNat).2.2.2.2.1)))
            (ref08_Choose_k2 l0 best1 x2 true Q)
            ((0 ≤ best1 ∧ best1.toNat < l0.length) ∧
            Br (((rd eR0 l0 x2.toNat).2.2.2.2.1) == ((rd eR0 l0 best1.toNat).2.2.2.2.1))
              ((0 ≤ best1 ∧ best1.toNat < l0.length) ∧
              ref08_Choose_k2 l0 best1 x2 (decide ((((rd eR0 l0 x2.toNat).2.2.2.2.2.2.2.2.2.2.2.2.2.2.2.2.2.2.2.2.2.2.2.2.2.2.2.2.2.2.2.2.1).length : Int) > (((rd eR0 l0 best1.toNat).2.2.2.2.2.2.2.2.2.2.2.2.2.2.2.2.2.2.2.2.2.2.2.2.2.2.2.2.2.2.2.2.1).length : Int))) Q)
              (ref08_Choose_k2 l0 best1 x2 false Q)))))
      (Br (decide (best1 < 0))
        (ref08_Choose_ret Q (0, false))
        (ref08_Choose_ret Q (best1, true)))) : ref08_Choose_l1 l0 best1 x2 Q :=
  run_loop (adv_go 6000 mixed ref08_Choose_rr (fa := [.gc]) (by kernel_rfl) h)
theorem ref08_Choose_k2_step (l0 : List eR0.T) (best1 : Int) (x2 : Int) (x3 : Bool) {Q : (Int × Bool) → Prop} (h :
    Br (x3)
      (ref08_Choose_l1 l0 x2 (addK .i64 x2 1) Q)
      (ref08_Choose_l1 l0 best1 (addK .i64 x2 1) Q)) : ref08_Choose_k2 l0 best1 x2 x3 Q :=
  adv_go 6000 mixed ref08_Choose_rr (fa := [.gc]) (by kernel_rfl) h
theorem ref08_Choose_act (l0 : List eR0.T) {Q : (Int × Bool) → Prop} (h : ref08_Choose l0 Q) : ACT Try.prog 20 [(.sl eR0 l0)] [] (ref08_Choose_R Q) :=
  act_go Try.func20 (by rfl) (by kernel_rfl) ref08_Choose_rc (n0 := 0) rfl (by kernel_rfl) h
theorem ref08_Choose_ok (l0 : List eR0.T) (r : (Int × Bool)) (h : ref08_Choose l0 (fun x => x = r)) : ACT Try.prog 20 [(.sl eR0 l0)] [] (fun tv tL => tv = ref08_Choose_enc r ∧ tL = ref08_Choose_obj r) := act_det (ref08_Choose_act l0 h)

/-! drover/droverlaw08.ViewChooses -/
def law08_ViewChooses_enc  : Bool → TV := fun r => (.bool r)
def law08_ViewChooses_obj  : Bool → List TO := fun r => []
def law08_ViewChooses_R  (Q : Bool → Prop) : TV → List TO → Prop := RetR (law08_ViewChooses_enc) (law08_ViewChooses_obj) Q
def law08_ViewChooses_ret  (Q : Bool → Prop) (r : Bool) : Prop := law08_ViewChooses_R Q (law08_ViewChooses_enc r) (law08_ViewChooses_obj r)
theorem law08_ViewChooses_ret.intro  {Q : Bool → Prop} {r : Bool} (h : Q r) : law08_ViewChooses_ret Q r := RetR.intro h
def law08_ViewChooses_o2_0 : List WOp := .op (POper.mk (some 2) (.move (.const (.bool false))) none) none :: []
def law08_ViewChooses_w2 : WC := (.region law08_ViewChooses_o2_0)
def law08_ViewChooses_o5_0 : List WOp := .op (POper.mk (some 9) (.move (.tmp 0)) none) none :: .op (POper.mk (some 10) (.len (.tmp 9)) none) none :: .op (POper.mk (some 11) (.bin .gtr (.tmp 10) (.const (.int .i64 60))) none) none :: []
def law08_ViewChooses_w5 : WC := (.region law08_ViewChooses_o5_0)
def law08_ViewChooses_o8_1 : List WOp := .op (POper.mk (some 2) (.move (.tmp 12)) none) none :: []
def law08_ViewChooses_o8_0 : List WOp := .ann [.mask [], .gc] :: .op (POper.mk (some 12) (.callf 17 []) none) none :: law08_ViewChooses_o8_1
def law08_ViewChooses_w8 : WC := (.region law08_ViewChooses_o8_0)
def law08_ViewChooses_w7 : WC := (.seq law08_ViewChooses_w8 .ret)
def law08_ViewChooses_w6 : WC := (.cond (.tmp 11) law08_ViewChooses_w7 .skip)
def law08_ViewChooses_w4 : WC := (.seq law08_ViewChooses_w5 law08_ViewChooses_w6)
def law08_ViewChooses_o13_0 : List WOp := .op (POper.mk (some 13) (.move (.tmp 0)) none) none :: .op (POper.mk (some 14) (.len (.tmp 13)) none) none :: .op (POper.mk (some 15) (.move (.const (.int .i64 0))) none) none :: []
def law08_ViewChooses_w13 : WC := (.region law08_ViewChooses_o13_0)
def law08_ViewChooses_o17_0 : List WOp := .op (POper.mk (some 16) (.bin .lss (.tmp 15) (.tmp 14)) none) none :: []
def law08_ViewChooses_w17 : WC := (.region law08_ViewChooses_o17_0)
def law08_ViewChooses_w19 : WC := (.cond (.tmp 16) .skip (.exit 0))
def law08_ViewChooses_o25_0 : List WOp := .op (POper.mk (some 17) (.iaddr 34 (.tmp 13) (.tmp 15)) none) none :: .op (POper.mk (some 18) (.loadN 34 (.tmp 17)) none) none :: .op (POper.mk (some 4) (.alloc [(.d (.int .i64 0)), (.d (.int .i64 0)), (.d (.int .i64 0)), (.d (.int .i64 0)), (.d (.int .i64 0)), (.d (.int .i64 0)), (.d (.int .i64 0)), (.d (.int .i64 0)), (.d (.int .i64 0)), (.d (.bool false)), (.d (.bool false)), (.d (.bool false)), (.d (.int .i64 0)), (.d (.int .i64 0)), (.d (.int .i64 0)), (.d (.str (ByteArray.mk #[]))), .nilsl, (.d (.int .i64 0)), (.d (.int .i64 0)), (.d (.int .i64 0)), (.d (.bool false)), (.d (.bool false)), (.d (.int .i64 0)), (.d (.int .i64 0)), (.d (.int .i64 0)), (.d (.int .i64 0)), (.d (.int .i64 0)), (.d (.int .i64 0)), (.d (.int .i64 0)), (.d (.int .i64 0)), (.d (.int .i64 0)), (.d (.bool false)), .nilsl, .nilsl]) none) none :: .op (POper.mk none (.store 34 (.tmp 4) (.tmp 18)) none) none :: []
def law08_ViewChooses_w25 : WC := (.region law08_ViewChooses_o25_0)
def law08_ViewChooses_o27_2 : List WOp := .op (POper.mk (some 21) (.bin .gtr (.tmp 20) (.const (.int .i64 200))) none) none :: []
def law08_ViewChooses_o27_0 : List WOp := .op (POper.mk (some 19) (.loadN 34 (.tmp 4)) none) none :: .ann [.mask [0, 13, 14, 15, 19], .gc] :: .op (POper.mk (some 20) (.callf 18 [(.tmp 19), (.const (.int .i64 200))]) none) none :: law08_ViewChooses_o27_2
def law08_ViewChooses_w27 : WC := (.region law08_ViewChooses_o27_0)
def law08_ViewChooses_o30_1 : List WOp := .op (POper.mk (some 2) (.move (.tmp 22)) none) none :: []
def law08_ViewChooses_o30_0 : List WOp := .ann [.mask [], .gc] :: .op (POper.mk (some 22) (.callf 17 []) none) none :: law08_ViewChooses_o30_1
def law08_ViewChooses_w30 : WC := (.region law08_ViewChooses_o30_0)
def law08_ViewChooses_w29 : WC := (.seq law08_ViewChooses_w30 .ret)
def law08_ViewChooses_w28 : WC := (.cond (.tmp 21) law08_ViewChooses_w29 .skip)
def law08_ViewChooses_w26 : WC := (.seq law08_ViewChooses_w27 law08_ViewChooses_w28)
def law08_ViewChooses_w24 : WC := (.seq law08_ViewChooses_w25 law08_ViewChooses_w26)
def law08_ViewChooses_w23 : WC := (.block 1 law08_ViewChooses_w24)
def law08_ViewChooses_o33_0 : List WOp := .op (POper.mk (some 23) (.bin .add (.tmp 15) (.const (.int .i64 1))) none) none :: .op (POper.mk (some 15) (.move (.tmp 23)) none) none :: []
def law08_ViewChooses_w33 : WC := (.region law08_ViewChooses_o33_0)
def law08_ViewChooses_w22 : WC := (.seq law08_ViewChooses_w23 law08_ViewChooses_w33)
def law08_ViewChooses_w18 : WC := (.seq law08_ViewChooses_w19 law08_ViewChooses_w22)
def law08_ViewChooses_w16 : WC := (.seq law08_ViewChooses_w17 law08_ViewChooses_w18)
def law08_ViewChooses_w15 : WC := (.loop [.mask [0, 13, 14, 15], .gc] law08_ViewChooses_w16)
def law08_ViewChooses_w14 : WC := (.block 0 (.ann [.mask [0, 13, 14, 15], .gc] law08_ViewChooses_w15))
def law08_ViewChooses_w12 : WC := (.seq law08_ViewChooses_w13 law08_ViewChooses_w14)
def law08_ViewChooses_o35_2 : List WOp := .op (POper.mk (some 24) (.move (.tmp 26)) none) none :: .op (POper.mk (some 27) (.extract (.tmp 24) 0) none) none :: .op (POper.mk (some 28) (.extract (.tmp 24) 1) none) none :: .op (POper.mk (some 5) (.move (.tmp 27)) none) none :: .op (POper.mk (some 6) (.move (.tmp 28)) none) none :: []
def law08_ViewChooses_o35_0 : List WOp := .op (POper.mk (some 25) (.move (.tmp 0)) none) none :: .ann [.mask [0, 25], .gc] :: .op (POper.mk (some 26) (.callf 19 [(.tmp 25)]) none) none :: law08_ViewChooses_o35_2
def law08_ViewChooses_w35 : WC := (.region law08_ViewChooses_o35_0)
def law08_ViewChooses_o37_2 : List WOp := .op (POper.mk (some 29) (.move (.tmp 31)) none) none :: .op (POper.mk (some 32) (.extract (.tmp 29) 0) none) none :: .op (POper.mk (some 33) (.extract (.tmp 29) 1) none) none :: .op (POper.mk (some 7) (.move (.tmp 32)) none) none :: .op (POper.mk (some 8) (.move (.tmp 33)) none) none :: []
def law08_ViewChooses_o37_0 : List WOp := .op (POper.mk (some 30) (.move (.tmp 0)) none) none :: .ann [.mask [5, 6, 30], .gc] :: .op (POper.mk (some 31) (.callf 20 [(.tmp 30)]) none) none :: law08_ViewChooses_o37_2
def law08_ViewChooses_w37 : WC := (.region law08_ViewChooses_o37_0)
def law08_ViewChooses_o39_10 : List WOp := .op (POper.mk (some 44) (.pick (.tmp 42) (.tmp 43) (.const (.bool false))) none) none :: .op (POper.mk (some 2) (.move (.tmp 44)) none) none :: []
def law08_ViewChooses_o39_0 : List WOp := .op (POper.mk (some 34) (.move (.tmp 5)) none) none :: .op (POper.mk (some 35) (.move (.tmp 7)) none) none :: .op (POper.mk (some 36) (.bin .eql (.tmp 34) (.tmp 35)) none) none :: .op (POper.mk (some 37) (.move (.tmp 36)) none) none :: .op (POper.mk (some 38) (.move (.tmp 6)) (some (37, true))) none :: .op (POper.mk (some 39) (.move (.tmp 8)) (some (37, true))) none :: .op (POper.mk (some 40) (.binB false (.tmp 38) (.tmp 39)) (some (37, true))) none :: .op (POper.mk (some 41) (.pick (.tmp 37) (.tmp 40) (.const (.bool false))) none) none :: .op (POper.mk (some 42) (.move (.tmp 41)) none) none :: .ann [.mask [42], .gc] :: .op (POper.mk (some 43) (.callf 17 []) (some (42, true))) none :: law08_ViewChooses_o39_10
def law08_ViewChooses_w39 : WC := (.region law08_ViewChooses_o39_0)
def law08_ViewChooses_w38 : WC := (.seq law08_ViewChooses_w39 .ret)
def law08_ViewChooses_w36 : WC := (.seq law08_ViewChooses_w37 law08_ViewChooses_w38)
def law08_ViewChooses_w34 : WC := (.seq law08_ViewChooses_w35 law08_ViewChooses_w36)
def law08_ViewChooses_w11 : WC := (.seq law08_ViewChooses_w12 law08_ViewChooses_w34)
def law08_ViewChooses_w3 : WC := (.seq law08_ViewChooses_w4 law08_ViewChooses_w11)
def law08_ViewChooses_w1 : WC := (.seq law08_ViewChooses_w2 law08_ViewChooses_w3)
theorem law08_ViewChooses_rc : resolveC Try.prog [] (Try.f5.body.getD .skip) = some (WC.er law08_ViewChooses_w1) := by kernel_rfl
theorem law08_ViewChooses_rr : resolveR Try.prog Try.f5.results.toList = some [(.move (.tmp 2))] := by kernel_rfl
def law08_ViewChooses (l0 : List eR0.T) (Q : Bool → Prop) : Prop := Run Try.prog 0 (FinS Try.prog 0 Try.f5 (law08_ViewChooses_R Q)) [.code law08_ViewChooses_w1] [(.sl eR0 l0), .und, .und, .und, .und, .und, .und, .und, .und, .und, .und, .und, .und, .und, .und, .und, .und, .und, .und, .und, .und, .und, .und, .und, .und, .und, .und, .und, .und, .und, .und, .und, .und, .und, .und, .und, .und, .und, .und, .und, .und, .und, .und, .und, .und] []
def law08_ViewChooses_c1  (Q : Bool → Prop) : Prop := Run Try.prog 0 (FinS Try.prog 0 Try.f5 (law08_ViewChooses_R Q)) [.ops (.op (POper.mk (some 12) (.callf 17 []) none) none :: law08_ViewChooses_o8_1), .code .ret, .code law08_ViewChooses_w11] [.dead, .dead, .dead, .dead, .dead, .dead, .dead, .dead, .dead, .dead, .dead, .dead, .dead, .dead, .dead, .dead, .dead, .dead, .dead, .dead, .dead, .dead, .dead, .dead, .dead, .dead, .dead, .dead, .dead, .dead, .dead, .dead, .dead, .dead, .dead, .dead, .dead, .dead, .dead, .dead, .dead, .dead, .dead, .dead, .dead] []
def law08_ViewChooses_l1 (l0 : List eR0.T) (x2 : Int) (Q : Bool → Prop) : Prop := Run Try.prog 0 (FinS Try.prog 0 Try.f5 (law08_ViewChooses_R Q)) [.lp [.mask [0, 13, 14, 15], .gc] law08_ViewChooses_w16, .bend 0, .code law08_ViewChooses_w34] [(.sl eR0 l0), .dead, .dead, .dead, .dead, .dead, .dead, .dead, .dead, .dead, .dead, .dead, .dead, (.sl eR0 l0), (.int .i64 (l0.length : Int)), (.int .i64 x2), .dead, .dead, .dead, .dead, .dead, .dead, .dead, .dead, .dead, .dead, .dead, .dead, .dead, .dead, .dead, .dead, .dead, .dead, .dead, .dead, .dead, .dead, .dead, .dead, .dead, .dead, .dead, .dead, .dead] []
def law08_ViewChooses_c2 (l0 : List eR0.T) (x2 : Int) (Q : Bool → Prop) : Prop := Run Try.prog 0 (FinS Try.prog 0 Try.f5 (law08_ViewChooses_R Q)) [.ops (.op (POper.mk (some 20) (.callf 18 [(.tmp 19), (.const (.int .i64 200))]) none) none :: law08_ViewChooses_o27_2), .code law08_ViewChooses_w28, .bend 1, .code law08_ViewChooses_w33, .lp [.mask [0, 13, 14, 15], .gc] law08_ViewChooses_w16, .bend 0, .code law08_ViewChooses_w34] [(.sl eR0 l0), .dead, .dead, .dead, .dead, .dead, .dead, .dead, .dead, .dead, .dead, .dead, .dead, (.sl eR0 l0), (.int .i64 (l0.length : Int)), (.int .i64 x2), .dead, .dead, .dead, (.agg [(.int .i64 ((rd eR0 l0 x2.toNat).1)), (.int .i64 ((rd eR0 l0 x2.toNat).2.1)), (.int .i64 ((rd eR0 l0 x2.toNat).2.2.1)), (.int .i64 ((rd eR0 l0 x2.toNat).2.2.2.1)), (.int .i64 ((rd eR0 l0 x2.toNat).2.2.2.2.1)), (.int .i64 ((rd eR0 l0 x2.toNat).2.2.2.2.2.1)), (.int .i64 ((rd eR0 l0 x2.toNat).2.2.2.2.2.2.1)), (.int .i64 ((rd eR0 l0 x2.toNat).2.2.2.2.2.2.2.1)), (.int .i64 ((rd eR0 l0 x2.toNat).2.2.2.2.2.2.2.2.1)), (.bool ((rd eR0 l0 x2.toNat).2.2.2.2.2.2.2.2.2.1)), (.bool ((rd eR0 l0 x2.toNat).2.2.2.2.2.2.2.2.2.2.1)), (.bool ((rd eR0 l0 x2.toNat).2.2.2.2.2.2.2.2.2.2.2.1)), (.int .i64 ((rd eR0 l0 x2.toNat).2.2.2.2.2.2.2.2.2.2.2.2.1)), (.int .i64 ((rd eR0 l0 x2.toNat).2.2.2.2.2.2.2.2.2.2.2.2.2.1)), (.int .i64 ((rd eR0 l0 x2.toNat).2.2.2.2.2.2.2.2.2.2.2.2.2.2.1)), (.str ((rd eR0 l0 x2.toNat).2.2.2.2.2.2.2.2.2.2.2.2.2.2.2.1)), (.sl eR1 ((rd eR0 l0 x2.toNat).2.2.2.2.2.2.2.2.2.2.2.2.2.2.2.2.1)), (.int .i64 ((rd eR0 l0 x2.toNat).2.2.2.2.2.2.2.2.2.2.2.2.2.2.2.2.2.1)), (.int .i64 ((rd eR0 l0 x2.toNat).2.2.2.2.2.2.2.2.2.2.2.2.2.2.2.2.2.2.1)), (.int .i64 ((rd eR0 l0 x2.toNat).2.2.2.2.2.2.2.2.2.2.2.2.2.2.2.2.2.2.2.1)), (.bool ((rd eR0 l0 x2.toNat).2.2.2.2.2.2.2.2.2.2.2.2.2.2.2.2.2.2.2.2.1)), (.bool ((rd eR0 l0 x2.toNat).2.2.2.2.2.2.2.2.2.2.2.2.2.2.2.2.2.2.2.2.2.1)), (.int .i64 ((rd eR0 l0 x2.toNat).2.2.2.2.2.2.2.2.2.2.2.2.2.2.2.2.2.2.2.2.2.2.1)), (.int .i64 ((rd eR0 l0 x2.toNat).2.2.2.2.2.2.2.2.2.2.2.2.2.2.2.2.2.2.2.2.2.2.2.1)), (.int .i64 ((rd eR0 l0 x2.toNat).2.2.2.2.2.2.2.2.2.2.2.2.2.2.2.2.2.2.2.2.2.2.2.2.1)), (.int .i64 ((rd eR0 l0 x2.toNat).2.2.2.2.2.2.2.2.2.2.2.2.2.2.2.2.2.2.2.2.2.2.2.2.2.1)), (.int .i64 ((rd eR0 l0 x2.toNat).2.2.2.2.2.2.2.2.2.2.2.2.2.2.2.2.2.2.2.2.2.2.2.2.2.2.1)), (.int .i64 ((rd eR0 l0 x2.toNat).2.2.2.2.2.2.2.2.2.2.2.2.2.2.2.2.2.2.2.2.2.2.2.2.2.2.2.1)), (.int .i64 ((rd eR0 l0 x2.toNat).2.2.2.2.2.2.2.2.2.2.2.2.2.2.2.2.2.2.2.2.2.2.2.2.2.2.2.2.1)), (.int .i64 ((rd eR0 l0 x2.toNat).2.2.2.2.2.2.2.2.2.2.2.2.2.2.2.2.2.2.2.2.2.2.2.2.2.2.2.2.2.1)), (.int .i64 ((rd eR0 l0 x2.toNat).2.2.2.2.2.2.2.2.2.2.2.2.2.2.2.2.2.2.2.2.2.2.2.2.2.2.2.2.2.2.1)), (.bool ((rd eR0 l0 x2.toNat).2.2.2.2.2.2.2.2.2.2.2.2.2.2.2.2.2.2.2.2.2.2.2.2.2.2.2.2.2.2.2.1)), (.sl eR2 ((rd eR0 l0 x2.toNat).2.2.2.2.2.2.2.2.2.2.2.2.2.2.2.2.2.2.2.2.2.2.2.2.2.2.2.2.2.2.2.2.1)), (.sl eI64 ((rd eR0 l0 x2.toNat).2.2.2.2.2.2.2.2.2.2.2.2.2.2.2.2.2.2.2.2.2.2.2.2.2.2.2.2.2.2.2.2.2))]), .dead, .dead, .dead, .dead, .dead, .dead, .dead, .dead, .dead, .dead, .dead, .dead, .dead, .dead, .dead, .dead, .dead, .dead, .dead, .dead, .dead, .dead, .dead, .dead, .dead] []
def law08_ViewChooses_c3  (Q : Bool → Prop) : Prop := Run Try.prog 0 (FinS Try.prog 0 Try.f5 (law08_ViewChooses_R Q)) [.ops (.op (POper.mk (some 22) (.callf 17 []) none) none :: law08_ViewChooses_o30_1), .code .ret, .bend 1, .code law08_ViewChooses_w33, .lp [.mask [0, 13, 14, 15], .gc] law08_ViewChooses_w16, .bend 0, .code law08_ViewChooses_w34] [.dead, .dead, .dead, .dead, .dead, .dead, .dead, .dead, .dead, .dead, .dead, .dead, .dead, .dead, .dead, .dead, .dead, .dead, .dead, .dead, .dead, .dead, .dead, .dead, .dead, .dead, .dead, .dead, .dead, .dead, .dead, .dead, .dead, .dead, .dead, .dead, .dead, .dead, .dead, .dead, .dead, .dead, .dead, .dead, .dead] []
def law08_ViewChooses_c4 (l0 : List eR0.T) (Q : Bool → Prop) : Prop := Run Try.prog 0 (FinS Try.prog 0 Try.f5 (law08_ViewChooses_R Q)) [.ops (.op (POper.mk (some 26) (.callf 19 [(.tmp 25)]) none) none :: law08_ViewChooses_o35_2), .code law08_ViewChooses_w36] [(.sl eR0 l0), .dead, .dead, .dead, .dead, .dead, .dead, .dead, .dead, .dead, .dead, .dead, .dead, .dead, .dead, .dead, .dead, .dead, .dead, .dead, .dead, .dead, .dead, .dead, .dead, (.sl eR0 l0), .dead, .dead, .dead, .dead, .dead, .dead, .dead, .dead, .dead, .dead, .dead, .dead, .dead, .dead, .dead, .dead, .dead, .dead, .dead] []
def law08_ViewChooses_c5 (r5 : Int × Bool) (l0 : List eR0.T) (Q : Bool → Prop) : Prop := Run Try.prog 0 (FinS Try.prog 0 Try.f5 (law08_ViewChooses_R Q)) [.ops (.op (POper.mk (some 31) (.callf 20 [(.tmp 30)]) none) none :: law08_ViewChooses_o37_2), .code law08_ViewChooses_w38] [.dead, .dead, .dead, .dead, .dead, (.int .i64 r5.1), (.bool r5.2), .dead, .dead, .dead, .dead, .dead, .dead, .dead, .dead, .dead, .dead, .dead, .dead, .dead, .dead, .dead, .dead, .dead, .dead, .dead, .dead, .dead, .dead, .dead, (.sl eR0 l0), .dead, .dead, .dead, .dead, .dead, .dead, .dead, .dead, .dead, .dead, .dead, .dead, .dead, .dead] []
def law08_ViewChooses_c6  (Q : Bool → Prop) : Prop := Run Try.prog 0 (FinS Try.prog 0 Try.f5 (law08_ViewChooses_R Q)) [.ops (.op (POper.mk (some 43) (.callf 17 []) none) none :: law08_ViewChooses_o39_10), .code .ret] [.dead, .dead, .dead, .dead, .dead, .dead, .dead, .dead, .dead, .dead, .dead, .dead, .dead, .dead, .dead, .dead, .dead, .dead, .dead, .dead, .dead, .dead, .dead, .dead, .dead, .dead, .dead, .dead, .dead, .dead, .dead, .dead, .dead, .dead, .dead, .dead, .dead, .dead, .dead, .dead, .dead, .dead, (.bool true), .dead, .dead] []
theorem law08_ViewChooses_step (l0 : List eR0.T) {Q : Bool → Prop} (h :
    Br (decide ((l0.length : Int) > 60))
      (law08_ViewChooses_c1 Q)
      (law08_ViewChooses_l1 l0 0 Q)) : law08_ViewChooses l0 Q :=
  adv_go 6000 mixed law08_ViewChooses_rr (fa := [.gc]) (by kernel_rfl) h
theorem law08_ViewChooses_c1_step  {Q : Bool → Prop} (r1 : Bool) (hc : law08_lives (fun x => x = r1)) (h :
    law08_ViewChooses_ret Q r1) : law08_ViewChooses_c1 Q :=
  run_callf (tout := (lendOut [] 0 (law08_lives_enc r1) (law08_lives_obj r1))) (call_typed [] (law08_lives_ok r1 hc) (by kernel_rfl) (by kernel_rfl) (by kernel_rfl)) (adv_go 6000 mixed law08_ViewChooses_rr (fa := [.gc]) (by kernel_rfl) h)
theorem law08_ViewChooses_l1_step (l0 : List eR0.T) (x2 : Int) {Q : Bool → Prop} (h :
    Br (decide (x2 < (l0.length : Int)))
      ((0 ≤ x2 ∧ x2.toNat < l0.length) ∧
      law08_ViewChooses_c2 l0 x2 Q)
      (law08_ViewChooses_c4 l0 Q)) : law08_ViewChooses_l1 l0 x2 Q :=
  run_loop (adv_go 6000 mixed law08_ViewChooses_rr (fa := [.gc]) (by kernel_rfl) h)
theorem law08_ViewChooses_c2_step (l0 : List eR0.T) (x2 : Int) {Q : Bool → Prop} (r3 : Int) (hc : ref04_Steps (rd eR0 l0 x2.toNat) 200 (fun x => x = r3)) (h :
    Br (decide (r3 > 200))
      (law08_ViewChooses_c3 Q)
      (law08_ViewChooses_l1 l0 (addK .i64 x2 1) Q)) : law08_ViewChooses_c2 l0 x2 Q :=
  run_callf (tout := (lendOut [] 0 (ref04_Steps_enc r3) (ref04_Steps_obj r3))) (call_typed [] (ref04_Steps_ok (rd eR0 l0 x2.toNat) 200 r3 hc) (by kernel_rfl) (by kernel_rfl) (by kernel_rfl)) (adv_go 6000 mixed law08_ViewChooses_rr (fa := [.gc]) (by kernel_rfl) h)
theorem law08_ViewChooses_c3_step  {Q : Bool → Prop} (r4 : Bool) (hc : law08_lives (fun x => x = r4)) (h :
    law08_ViewChooses_ret Q r4) : law08_ViewChooses_c3 Q :=
  run_callf (tout := (lendOut [] 0 (law08_lives_enc r4) (law08_lives_obj r4))) (call_typed [] (law08_lives_ok r4 hc) (by kernel_rfl) (by kernel_rfl) (by kernel_rfl)) (adv_go 6000 mixed law08_ViewChooses_rr (fa := [.gc]) (by kernel_rfl) h)
theorem law08_ViewChooses_c4_step (l0 : List eR0.T) {Q : Bool → Prop} (r5 : Int × Bool) (hc : view_Choose l0 (fun x => x = r5)) (h :
    law08_ViewChooses_c5 r5 l0 Q) : law08_ViewChooses_c4 l0 Q :=
  run_callf (tout := (lendOut [] 0 (view_Choose_enc r5) (view_Choose_obj r5))) (call_typed [] (view_Choose_ok l0 r5 hc) (by kernel_rfl) (by kernel_rfl) (by kernel_rfl)) (adv_go 6000 mixed law08_ViewChooses_rr (fa := [.gc]) (by kernel_rfl) h)
theorem law08_ViewChooses_c5_step (r5 : Int × Bool) (l0 : List eR0.T) {Q : Bool → Prop} (r6 : Int × Bool) (hc : ref08_Choose l0 (fun x => x = r6)) (h :
    Br (r5.1 == r6.1)
      (Br (r5.2 == r6.2)
        (law08_ViewChooses_c6 Q)
        (law08_ViewChooses_ret Q false))
      (law08_ViewChooses_ret Q false)) : law08_ViewChooses_c5 r5 l0 Q :=
  run_callf (tout := (lendOut [] 0 (ref08_Choose_enc r6) (ref08_Choose_obj r6))) (call_typed [] (ref08_Choose_ok l0 r6 hc) (by kernel_rfl) (by kernel_rfl) (by kernel_rfl)) (adv_go 6000 mixed law08_ViewChooses_rr (fa := [.gc]) (by kernel_rfl) h)
theorem law08_ViewChooses_c6_step  {Q : Bool → Prop} (r7 : Bool) (hc : law08_lives (fun x => x = r7)) (h :
    law08_ViewChooses_ret Q r7) : law08_ViewChooses_c6 Q :=
  run_callf (tout := (lendOut [] 0 (law08_lives_enc r7) (law08_lives_obj r7))) (call_typed [] (law08_lives_ok r7 hc) (by kernel_rfl) (by kernel_rfl) (by kernel_rfl)) (adv_go 6000 mixed law08_ViewChooses_rr (fa := [.gc]) (by kernel_rfl) h)
theorem law08_ViewChooses_act (l0 : List eR0.T) {Q : Bool → Prop} (h : law08_ViewChooses l0 Q) : ACT Try.prog 5 [(.sl eR0 l0)] [] (law08_ViewChooses_R Q) :=
  act_go Try.func5 (by rfl) (by kernel_rfl) law08_ViewChooses_rc (n0 := 0) rfl (by kernel_rfl) h
theorem law08_ViewChooses_ok (l0 : List eR0.T) (r : Bool) (h : law08_ViewChooses l0 (fun x => x = r)) : ACT Try.prog 5 [(.sl eR0 l0)] [] (fun tv tL => tv = law08_ViewChooses_enc r ∧ tL = law08_ViewChooses_obj r) := act_det (law08_ViewChooses_act l0 h)

/-! drover/view.NewVotes -/
def view_NewVotes_enc  : Option eR3.T → TV := fun r => match r with | none => .nilp | some r => (.ptr 0 0)
def view_NewVotes_obj  : Option eR3.T → List TO := fun r => match r with | none => [] | some r => [(.arr [(.int .i64 r.1), (.int .u64 r.2)])]
def view_NewVotes_R  (Q : Option eR3.T → Prop) : TV → List TO → Prop := RetR (view_NewVotes_enc) (view_NewVotes_obj) Q
def view_NewVotes_ret  (Q : Option eR3.T → Prop) (r : Option eR3.T) : Prop := view_NewVotes_R Q (view_NewVotes_enc r) (view_NewVotes_obj r)
theorem view_NewVotes_ret.intro  {Q : Option eR3.T → Prop} {r : Option eR3.T} (h : Q r) : view_NewVotes_ret Q r := RetR.intro h
def view_NewVotes_o2_0 : List WOp := .op (POper.mk (some 2) (.move (.const (.pointer .none))) none) none :: []
def view_NewVotes_w2 : WC := (.region view_NewVotes_o2_0)
def view_NewVotes_o5_2 : List WOp := .op (POper.mk (some 5) (.un .not (.tmp 4)) none) none :: []
def view_NewVotes_o5_0 : List WOp := .op (POper.mk (some 3) (.move (.tmp 0)) none) none :: .ann [.mask [0, 3], .gc] :: .op (POper.mk (some 4) (.callf 33 [(.tmp 3)]) none) none :: view_NewVotes_o5_2
def view_NewVotes_w5 : WC := (.region view_NewVotes_o5_0)
def view_NewVotes_o8_0 : List WOp := .op (POper.mk (some 2) (.move (.const (.pointer .none))) none) none :: []
def view_NewVotes_w8 : WC := (.region view_NewVotes_o8_0)
def view_NewVotes_w7 : WC := (.seq view_NewVotes_w8 .ret)
def view_NewVotes_w6 : WC := (.cond (.tmp 5) view_NewVotes_w7 .skip)
def view_NewVotes_w4 : WC := (.seq view_NewVotes_w5 view_NewVotes_w6)
def view_NewVotes_o12_0 : List WOp := .op (POper.mk (some 6) (.move (.tmp 0)) none) none :: .op (POper.mk (some 7) (.build [(.d (.int .i64 0)), (.d (.int .u64 0))] [(0, (1, (.tmp 6)))]) none) none :: .op (POper.mk (some 8) (.box 2 (.tmp 7)) none) none :: .op (POper.mk (some 2) (.move (.tmp 8)) none) none :: []
def view_NewVotes_w12 : WC := (.region view_NewVotes_o12_0)
def view_NewVotes_w11 : WC := (.seq view_NewVotes_w12 .ret)
def view_NewVotes_w3 : WC := (.seq view_NewVotes_w4 view_NewVotes_w11)
def view_NewVotes_w1 : WC := (.seq view_NewVotes_w2 view_NewVotes_w3)
theorem view_NewVotes_rc : resolveC Try.prog [] (Try.f21.body.getD .skip) = some (WC.er view_NewVotes_w1) := by kernel_rfl
theorem view_NewVotes_rr : resolveR Try.prog Try.f21.results.toList = some [(.move (.tmp 2))] := by kernel_rfl
def view_NewVotes (n0 : Int) (Q : Option eR3.T → Prop) : Prop := Run Try.prog 0 (FinS Try.prog 0 Try.f21 (view_NewVotes_R Q)) [.code view_NewVotes_w1] [(.int .i64 n0), .und, .und, .und, .und, .und, .und, .und, .und] []
def view_NewVotes_c1 (n0 : Int) (Q : Option eR3.T → Prop) : Prop := Run Try.prog 0 (FinS Try.prog 0 Try.f21 (view_NewVotes_R Q)) [.ops (.op (POper.mk (some 4) (.callf 33 [(.tmp 3)]) none) none :: view_NewVotes_o5_2), .code view_NewVotes_w6, .code view_NewVotes_w11] [(.int .i64 n0), .dead, .dead, (.int .i64 n0), .dead, .dead, .dead, .dead, .dead] []
theorem view_NewVotes_step (n0 : Int) {Q : Option eR3.T → Prop} (h :
    view_NewVotes_c1 n0 Q) : view_NewVotes n0 Q :=
  adv_go 6000 mixed view_NewVotes_rr (fa := [.gc]) (by kernel_rfl) h
theorem view_NewVotes_c1_step (n0 : Int) {Q : Option eR3.T → Prop} (r1 : Bool) (hc : view_nodes n0 (fun x => x = r1)) (h :
    Br (!r1)
      (view_NewVotes_ret Q none)
      (view_NewVotes_ret Q (some (n0, 0)))) : view_NewVotes_c1 n0 Q :=
  run_callf (tout := (lendOut [] 0 (view_nodes_enc r1) (view_nodes_obj r1))) (call_typed [] (view_nodes_ok n0 r1 hc) (by kernel_rfl) (by kernel_rfl) (by kernel_rfl)) (adv_go 6000 mixed view_NewVotes_rr (fa := [.gc]) (by kernel_rfl) h)
theorem view_NewVotes_act (n0 : Int) {Q : Option eR3.T → Prop} (h : view_NewVotes n0 Q) : ACT Try.prog 21 [(.int .i64 n0)] [] (view_NewVotes_R Q) :=
  act_go Try.func21 (by rfl) (by kernel_rfl) view_NewVotes_rc (n0 := 0) rfl (by kernel_rfl) h
theorem view_NewVotes_ok (n0 : Int) (r : Option eR3.T) (h : view_NewVotes n0 (fun x => x = r)) : ACT Try.prog 21 [(.int .i64 n0)] [] (fun tv tL => tv = view_NewVotes_enc r ∧ tL = view_NewVotes_obj r) := act_det (view_NewVotes_act n0 h)

/-! (*drover/view.Votes).Has -/
def view_Votes_Has_enc  : Bool → TV := fun r => (.bool r)
def view_Votes_Has_obj  : Bool → List TO := fun r => []
def view_Votes_Has_R  (Q : Bool → Prop) : TV → List TO → Prop := RetR (view_Votes_Has_enc) (view_Votes_Has_obj) Q
def view_Votes_Has_ret  (Q : Bool → Prop) (r : Bool) : Prop := view_Votes_Has_R Q (view_Votes_Has_enc r) (view_Votes_Has_obj r)
theorem view_Votes_Has_ret.intro  {Q : Bool → Prop} {r : Bool} (h : Q r) : view_Votes_Has_ret Q r := RetR.intro h
def view_Votes_Has_o2_0 : List WOp := .op (POper.mk (some 4) (.move (.const (.bool false))) none) none :: []
def view_Votes_Has_w2 : WC := (.region view_Votes_Has_o2_0)
def view_Votes_Has_o4_0 : List WOp := .op (POper.mk (some 5) (.move (.tmp 0)) none) none :: .op (POper.mk (some 6) (.isnil 0 true (.tmp 5)) none) none :: .op (POper.mk (some 7) (.move (.tmp 6)) none) none :: .op (POper.mk (some 8) (.move (.tmp 1)) (some (7, true))) none :: .op (POper.mk (some 9) (.bin .geq (.tmp 8) (.const (.int .i64 1))) (some (7, true))) none :: .op (POper.mk (some 10) (.pick (.tmp 7) (.tmp 9) (.const (.bool false))) none) none :: .op (POper.mk (some 11) (.move (.tmp 10)) none) none :: .op (POper.mk (some 12) (.move (.tmp 1)) (some (11, true))) none :: .op (POper.mk (some 13) (.move (.tmp 0)) (some (11, true))) none :: .op (POper.mk (some 14) (.nilc (.tmp 13)) (some (11, true))) none :: .op (POper.mk (some 15) (.faddr 0 (.tmp 14)) (some (11, true))) none :: .op (POper.mk (some 16) (.load1 (.tmp 15)) (some (11, true))) none :: .op (POper.mk (some 17) (.bin .leq (.tmp 12) (.tmp 16)) (some (11, true))) none :: .op (POper.mk (some 18) (.pick (.tmp 11) (.tmp 17) (.const (.bool false))) none) none :: .op (POper.mk (some 19) (.move (.tmp 18)) none) none :: .op (POper.mk (some 20) (.move (.tmp 0)) (some (19, true))) none :: .op (POper.mk (some 21) (.nilc (.tmp 20)) (some (19, true))) none :: .op (POper.mk (some 22) (.faddr 1 (.tmp 21)) (some (19, true))) none :: .op (POper.mk (some 23) (.load1 (.tmp 22)) (some (19, true))) none :: .op (POper.mk (some 24) (.move (.tmp 1)) (some (19, true))) none :: .op (POper.mk (some 25) (.bin .shr (.tmp 23) (.tmp 24)) (some (19, true))) none :: .op (POper.mk (some 26) (.bin .and (.tmp 25) (.const (.int .u64 1))) (some (19, true))) none :: .op (POper.mk (some 27) (.bin .gtr (.tmp 26) (.const (.int .u64 0))) (some (19, true))) none :: .op (POper.mk (some 28) (.pick (.tmp 19) (.tmp 27) (.const (.bool false))) none) none :: .op (POper.mk (some 4) (.move (.tmp 28)) none) none :: []
def view_Votes_Has_w4 : WC := (.region view_Votes_Has_o4_0)
def view_Votes_Has_w3 : WC := (.seq view_Votes_Has_w4 .ret)
def view_Votes_Has_w1 : WC := (.seq view_Votes_Has_w2 view_Votes_Has_w3)
theorem view_Votes_Has_rc : resolveC Try.prog [] (Try.f23.body.getD .skip) = some (WC.er view_Votes_Has_w1) := by kernel_rfl
theorem view_Votes_Has_rr : resolveR Try.prog Try.f23.results.toList = some [(.move (.tmp 4))] := by kernel_rfl
def view_Votes_Has (v0 : eR3.T) (node1 : Int) (Q : Bool → Prop) : Prop := Run Try.prog 0 (FinS Try.prog 0 Try.f23 (view_Votes_Has_R Q)) [.code view_Votes_Has_w1] [(.fp eR3 v0 0), (.int .i64 node1), .und, .und, .und, .und, .und, .und, .und, .und, .und, .und, .und, .und, .und, .und, .und, .und, .und, .und, .und, .und, .und, .und, .und, .und, .und, .und, .und] []
theorem view_Votes_Has_step (v0 : eR3.T) (node1 : Int) {Q : Bool → Prop} (h :
    Br (decide (node1 ≥ 1))
      (Br (decide (node1 ≤ v0.1))
        ((0 ≤ node1) ∧
        view_Votes_Has_ret Q (decide ((andK .u64 (shrK .u64 v0.2 node1) 1) > 0)))
        (view_Votes_Has_ret Q false))
      (view_Votes_Has_ret Q false)) : view_Votes_Has v0 node1 Q :=
  adv_go 6000 mixed view_Votes_Has_rr (fa := [.gc]) (by kernel_rfl) h
theorem view_Votes_Has_act (v0 : eR3.T) (node1 : Int) {Q : Bool → Prop} (h : view_Votes_Has v0 node1 Q) : ACT Try.prog 23 [(.fp eR3 v0 0), (.int .i64 node1)] [] (view_Votes_Has_R Q) :=
  act_go Try.func23 (by rfl) (by kernel_rfl) view_Votes_Has_rc (n0 := 0) rfl (by kernel_rfl) h
theorem view_Votes_Has_ok (v0 : eR3.T) (node1 : Int) (r : Bool) (h : view_Votes_Has v0 node1 (fun x => x = r)) : ACT Try.prog 23 [(.fp eR3 v0 0), (.int .i64 node1)] [] (fun tv tL => tv = view_Votes_Has_enc r ∧ tL = view_Votes_Has_obj r) := act_det (view_Votes_Has_act v0 node1 h)

/-! (*drover/view.Votes).Add -/
def view_Votes_Add_enc  : (Bool × eR3.T) → TV := fun r => (.bool r.1)
def view_Votes_Add_obj  : (Bool × eR3.T) → List TO := fun r => [(.arr [(.int .i64 r.2.1), (.int .u64 r.2.2)])]
def view_Votes_Add_R  (Q : (Bool × eR3.T) → Prop) : TV → List TO → Prop := RetR (view_Votes_Add_enc) (view_Votes_Add_obj) Q
def view_Votes_Add_ret  (Q : (Bool × eR3.T) → Prop) (r : (Bool × eR3.T)) : Prop := view_Votes_Add_R Q (view_Votes_Add_enc r) (view_Votes_Add_obj r)
theorem view_Votes_Add_ret.intro  {Q : (Bool × eR3.T) → Prop} {r : (Bool × eR3.T)} (h : Q r) : view_Votes_Add_ret Q r := RetR.intro h
def view_Votes_Add_o2_0 : List WOp := .op (POper.mk (some 4) (.move (.const (.bool false))) none) none :: []
def view_Votes_Add_w2 : WC := (.region view_Votes_Add_o2_0)
def view_Votes_Add_o5_18 : List WOp := .op (POper.mk (some 23) (.pick (.tmp 19) (.const (.bool true)) (.tmp 22)) none) none :: []
def view_Votes_Add_o5_0 : List WOp := .op (POper.mk (some 5) (.move (.tmp 0)) none) none :: .op (POper.mk (some 6) (.isnil 0 false (.tmp 5)) none) none :: .op (POper.mk (some 7) (.move (.tmp 6)) none) none :: .op (POper.mk (some 8) (.move (.tmp 1)) (some (7, false))) none :: .op (POper.mk (some 9) (.bin .lss (.tmp 8) (.const (.int .i64 1))) (some (7, false))) none :: .op (POper.mk (some 10) (.pick (.tmp 7) (.const (.bool true)) (.tmp 9)) none) none :: .op (POper.mk (some 11) (.move (.tmp 10)) none) none :: .op (POper.mk (some 12) (.move (.tmp 1)) (some (11, false))) none :: .op (POper.mk (some 13) (.move (.tmp 0)) (some (11, false))) none :: .op (POper.mk (some 14) (.nilc (.tmp 13)) (some (11, false))) none :: .op (POper.mk (some 15) (.faddr 0 (.tmp 14)) (some (11, false))) none :: .op (POper.mk (some 16) (.load1 (.tmp 15)) (some (11, false))) none :: .op (POper.mk (some 17) (.bin .gtr (.tmp 12) (.tmp 16)) (some (11, false))) none :: .op (POper.mk (some 18) (.pick (.tmp 11) (.const (.bool true)) (.tmp 17)) none) none :: .op (POper.mk (some 19) (.move (.tmp 18)) none) none :: .op (POper.mk (some 20) (.move (.tmp 0)) (some (19, false))) none :: .op (POper.mk (some 21) (.move (.tmp 1)) (some (19, false))) none :: .ann [.mask [0, 1, 19, 20, 21], .gc] :: .op (POper.mk (some 22) (.callf 23 [(.tmp 20), (.tmp 21)]) (some (19, false))) none :: view_Votes_Add_o5_18
def view_Votes_Add_w5 : WC := (.region view_Votes_Add_o5_0)
def view_Votes_Add_o8_0 : List WOp := .op (POper.mk (some 4) (.move (.const (.bool false))) none) none :: []
def view_Votes_Add_w8 : WC := (.region view_Votes_Add_o8_0)
def view_Votes_Add_w7 : WC := (.seq view_Votes_Add_w8 .ret)
def view_Votes_Add_w6 : WC := (.cond (.tmp 23) view_Votes_Add_w7 .skip)
def view_Votes_Add_w4 : WC := (.seq view_Votes_Add_w5 (.ann [.mask [0, 1, 23], .gc] (.cut view_Votes_Add_w6)))
def view_Votes_Add_o12_0 : List WOp := .op (POper.mk (some 24) (.move (.tmp 0)) none) none :: .op (POper.mk (some 25) (.nilc (.tmp 24)) none) none :: .op (POper.mk (some 26) (.faddr 1 (.tmp 25)) none) none :: .op (POper.mk (some 27) (.load1 (.tmp 26)) none) none :: .op (POper.mk (some 28) (.move (.tmp 1)) none) none :: .op (POper.mk (some 29) (.bin .shl (.const (.int .u64 1)) (.tmp 28)) none) none :: .op (POper.mk (some 30) (.bin .or (.tmp 27) (.tmp 29)) none) none :: .op (POper.mk (some 31) (.nilc (.tmp 24)) none) none :: .op (POper.mk (some 32) (.faddr 1 (.tmp 31)) none) none :: .op (POper.mk none (.store 1 (.tmp 32) (.tmp 30)) none) none :: []
def view_Votes_Add_e12 : List (List Nat) := [[], [0], [1, 0], [2, 1, 0], [], [4], [3, 2, 1, 0, 5, 4], [0, 1, 2, 3, 4, 5, 6], [7, 0, 1, 2, 3, 4, 5, 6], [8, 7, 0, 1, 2, 3, 4, 5, 6]]
def view_Votes_Add_w12 : WC := (.dregion view_Votes_Add_o12_0 view_Votes_Add_e12)
def view_Votes_Add_o14_0 : List WOp := .op (POper.mk (some 4) (.move (.const (.bool true))) none) none :: []
def view_Votes_Add_w14 : WC := (.region view_Votes_Add_o14_0)
def view_Votes_Add_w13 : WC := (.seq view_Votes_Add_w14 .ret)
def view_Votes_Add_w11 : WC := (.seq view_Votes_Add_w12 view_Votes_Add_w13)
def view_Votes_Add_w3 : WC := (.seq view_Votes_Add_w4 (.ann [.mask [0, 1], .gc] (.cut view_Votes_Add_w11)))
def view_Votes_Add_w1 : WC := (.seq view_Votes_Add_w2 view_Votes_Add_w3)
theorem view_Votes_Add_rc : resolveC Try.prog [] (Try.f22.body.getD .skip) = some (WC.er view_Votes_Add_w1) := by kernel_rfl
theorem view_Votes_Add_rr : resolveR Try.prog Try.f22.results.toList = some [(.move (.tmp 4))] := by kernel_rfl
def view_Votes_Add (node0 : Int) (v1 : eR3.T) (Q : (Bool × eR3.T) → Prop) : Prop := Run Try.prog 1 (FinS Try.prog 1 Try.f22 (view_Votes_Add_R Q)) [.code view_Votes_Add_w1] [(.ptr 0 0), (.int .i64 node0), .und, .und, .und, .und, .und, .und, .und, .und, .und, .und, .und, .und, .und, .und, .und, .und, .und, .und, .und, .und, .und, .und, .und, .und, .und, .und, .und, .und, .und, .und, .und] [(.arr [(.int .i64 v1.1), (.int .u64 v1.2)])]
def view_Votes_Add_k1 (node0 : Int) (x2 : Bool) (v1 : eR3.T) (Q : (Bool × eR3.T) → Prop) : Prop := Run Try.prog 1 (FinS Try.prog 1 Try.f22 (view_Votes_Add_R Q)) [.code view_Votes_Add_w6, .code (.ann [.mask [0, 1], .gc] (.cut view_Votes_Add_w11))] [(.ptr 0 0), (.int .i64 node0), .dead, .dead, .dead, .dead, .dead, .dead, .dead, .dead, .dead, .dead, .dead, .dead, .dead, .dead, .dead, .dead, .dead, .dead, .dead, .dead, .dead, (.bool x2), .dead, .dead, .dead, .dead, .dead, .dead, .dead, .dead, .dead] [(.arr [(.int .i64 v1.1), (.int .u64 v1.2)])]
def view_Votes_Add_k2 (node0 : Int) (v1 : eR3.T) (Q : (Bool × eR3.T) → Prop) : Prop := Run Try.prog 1 (FinS Try.prog 1 Try.f22 (view_Votes_Add_R Q)) [.code view_Votes_Add_w11] [(.ptr 0 0), (.int .i64 node0), .dead, .dead, .dead, .dead, .dead, .dead, .dead, .dead, .dead, .dead, .dead, .dead, .dead, .dead, .dead, .dead, .dead, .dead, .dead, .dead, .dead, .dead, .dead, .dead, .dead, .dead, .dead, .dead, .dead, .dead, .dead] [(.arr [(.int .i64 v1.1), (.int .u64 v1.2)])]
def view_Votes_Add_c1 (node0 : Int) (v1 : eR3.T) (Q : (Bool × eR3.T) → Prop) : Prop := Run Try.prog 1 (FinS Try.prog 1 Try.f22 (view_Votes_Add_R Q)) [.ops (.op (POper.mk (some 22) (.callf 23 [(.tmp 20), (.tmp 21)]) none) none :: view_Votes_Add_o5_18), .code (.ann [.mask [0, 1, 23], .gc] (.cut view_Votes_Add_w6)), .code (.ann [.mask [0, 1], .gc] (.cut view_Votes_Add_w11))] [(.ptr 0 0), (.int .i64 node0), .dead, .dead, .dead, .dead, .dead, .dead, .dead, .dead, .dead, .dead, .dead, .dead, .dead, .dead, .dead, .dead, .dead, (.bool false), (.ptr 0 0), (.int .i64 node0), .dead, .dead, .dead, .dead, .dead, .dead, .dead, .dead, .dead, .dead, .dead] [(.arr [(.int .i64 v1.1), (.int .u64 v1.2)])]
theorem view_Votes_Add_step (node0 : Int) (v1 : eR3.T) {Q : (Bool × eR3.T) → Prop} (h :
    Br (decide (node0 < 1))
      (view_Votes_Add_k1 node0 true v1 Q)
      (Br (decide (node0 > v1.1))
        (view_Votes_Add_k1 node0 true v1 Q)
        (view_Votes_Add_c1 node0 v1 Q))) : view_Votes_Add node0 v1 Q :=
  adv_go 6000 mixed view_Votes_Add_rr (fa := [.gc]) (by kernel_rfl) h
theorem view_Votes_Add_k1_step (node0 : Int) (x2 : Bool) (v1 : eR3.T) {Q : (Bool × eR3.T) → Prop} (h :
    Br (x2)
      (view_Votes_Add_ret Q (false, v1))
      (view_Votes_Add_k2 node0 v1 Q)) : view_Votes_Add_k1 node0 x2 v1 Q :=
  adv_go 6000 mixed view_Votes_Add_rr (fa := [.gc]) (by kernel_rfl) h
theorem view_Votes_Add_k2_step (node0 : Int) (v1 : eR3.T) {Q : (Bool × eR3.T) → Prop} (h :
    (0 ≤ node0) ∧
    view_Votes_Add_ret Q (true, (v1.1, orK .u64 v1.2 (shlK .u64 1 node0)))) : view_Votes_Add_k2 node0 v1 Q :=
  adv_go 6000 mixed view_Votes_Add_rr (fa := [.gc]) (by kernel_rfl) h
theorem view_Votes_Add_c1_step (node0 : Int) (v1 : eR3.T) {Q : (Bool × eR3.T) → Prop} (r3 : Bool) (hc : view_Votes_Has v1 node0 (fun x => x = r3)) (h :
    view_Votes_Add_k1 node0 r3 v1 Q) : view_Votes_Add_c1 node0 v1 Q :=
  run_callf (tout := (TOut.ro 0 (lendOut [] 1 (view_Votes_Has_enc r3) (view_Votes_Has_obj r3)))) (call_ro 0 eR3 v1 (by kernel_rfl) (call_typed [] (view_Votes_Has_ok v1 node0 r3 hc) (by kernel_rfl) (by kernel_rfl) (by kernel_rfl)) (by kernel_rfl) (by kernel_rfl) (by kernel_rfl)) (adv_go 6000 mixed view_Votes_Add_rr (fa := [.gc]) (by kernel_rfl) h)
theorem view_Votes_Add_act (node0 : Int) (v1 : eR3.T) {Q : (Bool × eR3.T) → Prop} (h : view_Votes_Add node0 v1 Q) : ACT Try.prog 22 [(.ptr 0 0), (.int .i64 node0)] [(.arr [(.int .i64 v1.1), (.int .u64 v1.2)])] (view_Votes_Add_R Q) :=
  act_go Try.func22 (by rfl) (by kernel_rfl) view_Votes_Add_rc (n0 := 1) rfl (by kernel_rfl) h
theorem view_Votes_Add_ok (node0 : Int) (v1 : eR3.T) (r : (Bool × eR3.T)) (h : view_Votes_Add node0 v1 (fun x => x = r)) : ACT Try.prog 22 [(.ptr 0 0), (.int .i64 node0)] [(.arr [(.int .i64 v1.1), (.int .u64 v1.2)])] (fun tv tL => tv = view_Votes_Add_enc r ∧ tL = view_Votes_Add_obj r) := act_det (view_Votes_Add_act node0 v1 h)

/-! math/bits.OnesCount64 -/
def math_bits_OnesCount64_enc  : Int → TV := fun r => (.int .i64 r)
def math_bits_OnesCount64_obj  : Int → List TO := fun r => []
def math_bits_OnesCount64_R  (Q : Int → Prop) : TV → List TO → Prop := RetR (math_bits_OnesCount64_enc) (math_bits_OnesCount64_obj) Q
def math_bits_OnesCount64_ret  (Q : Int → Prop) (r : Int) : Prop := math_bits_OnesCount64_R Q (math_bits_OnesCount64_enc r) (math_bits_OnesCount64_obj r)
theorem math_bits_OnesCount64_ret.intro  {Q : Int → Prop} {r : Int} (h : Q r) : math_bits_OnesCount64_ret Q r := RetR.intro h
def math_bits_OnesCount64_o2_0 : List WOp := .op (POper.mk (some 2) (.move (.const (.int .i64 0))) none) none :: []
def math_bits_OnesCount64_w2 : WC := (.region math_bits_OnesCount64_o2_0)
def math_bits_OnesCount64_o4_0 : List WOp := .op (POper.mk (some 3) (.move (.tmp 0)) none) none :: .op (POper.mk (some 4) (.bin .shr (.tmp 3) (.const (.int .u64 1))) none) none :: .op (POper.mk (some 5) (.bin .and (.tmp 4) (.const (.int .u64 6148914691236517205))) none) none :: .op (POper.mk (some 6) (.move (.tmp 0)) none) none :: .op (POper.mk (some 7) (.bin .and (.tmp 6) (.const (.int .u64 6148914691236517205))) none) none :: .op (POper.mk (some 8) (.bin .add (.tmp 5) (.tmp 7)) none) none :: .op (POper.mk (some 0) (.move (.tmp 8)) none) none :: []
def math_bits_OnesCount64_w4 : WC := (.region math_bits_OnesCount64_o4_0)
def math_bits_OnesCount64_o6_0 : List WOp := .op (POper.mk (some 9) (.move (.tmp 0)) none) none :: .op (POper.mk (some 10) (.bin .shr (.tmp 9) (.const (.int .u64 2))) none) none :: .op (POper.mk (some 11) (.bin .and (.tmp 10) (.const (.int .u64 3689348814741910323))) none) none :: .op (POper.mk (some 12) (.move (.tmp 0)) none) none :: .op (POper.mk (some 13) (.bin .and (.tmp 12) (.const (.int .u64 3689348814741910323))) none) none :: .op (POper.mk (some 14) (.bin .add (.tmp 11) (.tmp 13)) none) none :: .op (POper.mk (some 0) (.move (.tmp 14)) none) none :: []
def math_bits_OnesCount64_w6 : WC := (.region math_bits_OnesCount64_o6_0)
def math_bits_OnesCount64_o8_0 : List WOp := .op (POper.mk (some 15) (.move (.tmp 0)) none) none :: .op (POper.mk (some 16) (.bin .shr (.tmp 15) (.const (.int .u64 4))) none) none :: .op (POper.mk (some 17) (.move (.tmp 0)) none) none :: .op (POper.mk (some 18) (.bin .add (.tmp 16) (.tmp 17)) none) none :: .op (POper.mk (some 19) (.bin .and (.tmp 18) (.const (.int .u64 1085102592571150095))) none) none :: .op (POper.mk (some 0) (.move (.tmp 19)) none) none :: []
def math_bits_OnesCount64_w8 : WC := (.region math_bits_OnesCount64_o8_0)
def math_bits_OnesCount64_o10_0 : List WOp := .op (POper.mk (some 20) (.move (.tmp 0)) none) none :: .op (POper.mk (some 21) (.move (.tmp 0)) none) none :: .op (POper.mk (some 22) (.bin .shr (.tmp 21) (.const (.int .u64 8))) none) none :: .op (POper.mk (some 23) (.bin .add (.tmp 20) (.tmp 22)) none) none :: .op (POper.mk (some 0) (.move (.tmp 23)) none) none :: []
def math_bits_OnesCount64_w10 : WC := (.region math_bits_OnesCount64_o10_0)
def math_bits_OnesCount64_o12_0 : List WOp := .op (POper.mk (some 24) (.move (.tmp 0)) none) none :: .op (POper.mk (some 25) (.move (.tmp 0)) none) none :: .op (POper.mk (some 26) (.bin .shr (.tmp 25) (.const (.int .u64 16))) none) none :: .op (POper.mk (some 27) (.bin .add (.tmp 24) (.tmp 26)) none) none :: .op (POper.mk (some 0) (.move (.tmp 27)) none) none :: []
def math_bits_OnesCount64_w12 : WC := (.region math_bits_OnesCount64_o12_0)
def math_bits_OnesCount64_o14_0 : List WOp := .op (POper.mk (some 28) (.move (.tmp 0)) none) none :: .op (POper.mk (some 29) (.move (.tmp 0)) none) none :: .op (POper.mk (some 30) (.bin .shr (.tmp 29) (.const (.int .u64 32))) none) none :: .op (POper.mk (some 31) (.bin .add (.tmp 28) (.tmp 30)) none) none :: .op (POper.mk (some 0) (.move (.tmp 31)) none) none :: []
def math_bits_OnesCount64_w14 : WC := (.region math_bits_OnesCount64_o14_0)
def math_bits_OnesCount64_o16_0 : List WOp := .op (POper.mk (some 32) (.move (.tmp 0)) none) none :: .op (POper.mk (some 33) (.conv .i64 (.tmp 32)) none) none :: .op (POper.mk (some 34) (.bin .and (.tmp 33) (.const (.int .i64 127))) none) none :: .op (POper.mk (some 2) (.move (.tmp 34)) none) none :: []
def math_bits_OnesCount64_w16 : WC := (.region math_bits_OnesCount64_o16_0)
def math_bits_OnesCount64_w15 : WC := (.seq math_bits_OnesCount64_w16 .ret)
def math_bits_OnesCount64_w13 : WC := (.seq math_bits_OnesCount64_w14 math_bits_OnesCount64_w15)
def math_bits_OnesCount64_w11 : WC := (.seq math_bits_OnesCount64_w12 math_bits_OnesCount64_w13)
def math_bits_OnesCount64_w9 : WC := (.seq math_bits_OnesCount64_w10 math_bits_OnesCount64_w11)
def math_bits_OnesCount64_w7 : WC := (.seq math_bits_OnesCount64_w8 math_bits_OnesCount64_w9)
def math_bits_OnesCount64_w5 : WC := (.seq math_bits_OnesCount64_w6 math_bits_OnesCount64_w7)
def math_bits_OnesCount64_w3 : WC := (.seq math_bits_OnesCount64_w4 math_bits_OnesCount64_w5)
def math_bits_OnesCount64_w1 : WC := (.seq math_bits_OnesCount64_w2 math_bits_OnesCount64_w3)
theorem math_bits_OnesCount64_rc : resolveC Try.prog [] (Try.f42.body.getD .skip) = some (WC.er math_bits_OnesCount64_w1) := by kernel_rfl
theorem math_bits_OnesCount64_rr : resolveR Try.prog Try.f42.results.toList = some [(.move (.tmp 2))] := by kernel_rfl
def math_bits_OnesCount64 (x0 : Int) (Q : Int → Prop) : Prop := Run Try.prog 0 (FinS Try.prog 0 Try.f42 (math_bits_OnesCount64_R Q)) [.code math_bits_OnesCount64_w1] [(.int .u64 x0), .und, .und, .und, .und, .und, .und, .und, .und, .und, .und, .und, .und, .und, .und, .und, .und, .und, .und, .und, .und, .und, .und, .und, .und, .und, .und, .und, .und, .und, .und, .und, .und, .und, .und] []
theorem math_bits_OnesCount64_step (x0 : Int) {Q : Int → Prop} (h :
    (0 ≤ (1 : Int)) ∧
    (0 ≤ (2 : Int)) ∧
    (0 ≤ (4 : Int)) ∧
    (0 ≤ (8 : Int)) ∧
    (0 ≤ (16 : Int)) ∧
    (0 ≤ (32 : Int)) ∧
    math_bits_OnesCount64_ret Q (andK .i64 (convK .i64 (addK .u64 (addK .u64 (addK .u64 (andK .u64 (addK .u64 (shrK .u64 (addK .u64 (andK .u64 (shrK .u64 (addK .u64 (andK .u64 (shrK .u64 x0 1) 6148914691236517205) (andK .u64 x0 6148914691236517205)) 2) 3689348814741910323) (andK .u64 (addK .u64 (andK .u64 (shrK .u64 x0 1) 6148914691236517205) (andK .u64 x0 6148914691236517205)) 3689348814741910323)) 4) (addK .u64 (andK .u64 (shrK .u64 (addK .u64 (andK .u64 (shrK .u64 x0 1) 6148914691236517205) (andK .u64 x0 6148914691236517205)) 2) 3689348814741910323) (andK .u64 (addK .u64 (andK .u64 (shrK .u64 x0 1) 6148914691236517205) (andK .u64 x0 6148914691236517205)) 3689348814741910323))) 1085102592571150095) (shrK .u64 (andK .u64 (addK .u64 (shrK .u64 (addK .u64 (andK .u64 (shrK .u64 (addK .u64 (andK .u64 (shrK .u64 x0 1) 6148914691236517205) (andK .u64 x0 6148914691236517205)) 2) 3689348814741910323) (andK .u64 (addK .u64 (andK .u64 (shrK .u64 x0 1) 6148914691236517205) (andK .u64 x0 6148914691236517205)) 3689348814741910323)) 4) (addK .u64 (andK .u64 (shrK .u64 (addK .u64 (andK .u64 (shrK .u64 x0 1) 6148914691236517205) (andK .u64 x0 6148914691236517205)) 2) 3689348814741910323) (andK .u64 (addK .u64 (andK .u64 (shrK .u64 x0 1) 6148914691236517205) (andK .u64 x0 6148914691236517205)) 3689348814741910323))) 1085102592571150095) 8)) (shrK .u64 (addK .u64 (andK .u64 (addK .u64 (shrK .u64 (addK .u64 (andK .u64 (shrK .u64 (addK .u64 (andK .u64 (shrK .u64 x0 1) 6148914691236517205) (andK .u64 x0 6148914691236517205)) 2) 3689348814741910323) (andK .u64 (addK .u64 (andK .u64 (shrK .u64 x0 1) 6148914691236517205) (andK .u64 x0 6148914691236517205)) 3689348814741910323)) 4) (addK .u64 (andK .u64 (shrK .u64 (addK .u64 (andK .u64 (shrK .u64 x0 1) 6148914691236517205) (andK .u64 x0 6148914691236517205)) 2) 3689348814741910323) (andK .u64 (addK .u64 (andK .u64 (shrK .u64 x0 1) 6148914691236517205) (andK .u64 x0 6148914691236517205)) 3689348814741910323))) 1085102592571150095) (shrK .u64 (andK .u64 (addK .u64 (shrK .u64 (addK .u64 (andK .u64 (shrK .u64 (addK .u64 (andK .u64 (shrK .u64 x0 1) 6148914691236517205) (andK .u64 x0 6148914691236517205)) 2) 3689348814741910323) (andK .u64 (addK .u64 (andK .u64 (shrK .u64 x0 1) 6148914691236517205) (andK .u64 x0 6148914691236517205)) 3689348814741910323)) 4) (addK .u64 (andK .u64 (shrK .u64 (addK .u64 (andK .u64 (shrK .u64 x0 1) 6148914691236517205) (andK .u64 x0 6148914691236517205)) 2) 3689348814741910323) (andK .u64 (addK .u64 (andK .u64 (shrK .u64 x0 1) 6148914691236517205) (andK .u64 x0 6148914691236517205)) 3689348814741910323))) 1085102592571150095) 8)) 16)) (shrK .u64 (addK .u64 (addK .u64 (andK .u64 (addK .u64 (shrK .u64 (addK .u64 (andK .u64 (shrK .u64 (addK .u64 (andK .u64 (shrK .u64 x0 1) 6148914691236517205) (andK .u64 x0 6148914691236517205)) 2) 3689348814741910323) (andK .u64 (addK .u64 (andK .u64 (shrK .u64 x0 1) 6148914691236517205) (andK .u64 x0 6148914691236517205)) 3689348814741910323)) 4) (addK .u64 (andK .u64 (shrK .u64 (addK .u64 (andK .u64 (shrK .u64 x0 1) 6148914691236517205) (andK .u64 x0 6148914691236517205)) 2) 3689348814741910323) (andK .u64 (addK .u64 (andK .u64 (shrK .u64 x0 1) 6148914691236517205) (andK .u64 x0 6148914691236517205)) 3689348814741910323))) 1085102592571150095) (shrK .u64 (andK .u64 (addK .u64 (shrK .u64 (addK .u64 (andK .u64 (shrK .u64 (addK .u64 (andK .u64 (shrK .u64 x0 1) 6148914691236517205) (andK .u64 x0 6148914691236517205)) 2) 3689348814741910323) (andK .u64 (addK .u64 (andK .u64 (shrK .u64 x0 1) 6148914691236517205) (andK .u64 x0 6148914691236517205)) 3689348814741910323)) 4) (addK .u64 (andK .u64 (shrK .u64 (addK .u64 (andK .u64 (shrK .u64 x0 1) 6148914691236517205) (andK .u64 x0 6148914691236517205)) 2) 3689348814741910323) (andK .u64 (addK .u64 (andK .u64 (shrK .u64 x0 1) 6148914691236517205) (andK .u64 x0 6148914691236517205)) 3689348814741910323))) 1085102592571150095) 8)) (shrK .u64 (addK .u64 (andK .u64 (addK .u64 (shrK .u64 (addK .u64 (andK .u64 (shrK .u64 (addK .u64 (andK .u64 (shrK .u64 x0 1) 6148914691236517205) (andK .u64 x0 6148914691236517205)) 2) 3689348814741910323) (andK .u64 (addK .u64 (andK .u64 (shrK .u64 x0 1) 6148914691236517205) (andK .u64 x0 6148914691236517205)) 3689348814741910323)) 4) (addK .u64 (andK .u64 (shrK .u64 (addK .u64 (andK .u64 (shrK .u64 x0 1) 6148914691236517205) (andK .u64 x0 6148914691236517205)) 2) 3689348814741910323) (andK .u64 (addK .u64 (andK .u64 (shrK .u64 x0 1) 6148914691236517205) (andK .u64 x0 6148914691236517205)) 3689348814741910323))) 1085102592571150095) (shrK .u64 (andK .u64 (addK .u64 (shrK .u64 (addK .u64 (andK .u64 (shrK .u64 (addK .u64 (andK .u64 (shrK .u64 x0 1) 6148914691236517205) (andK .u64 x0 6148914691236517205)) 2) 3689348814741910323) (andK .u64 (addK .u64 (andK .u64 (shrK .u64 x0 1) 6148914691236517205) (andK .u64 x0 6148914691236517205)) 3689348814741910323)) 4) (addK .u64 (andK .u64 (shrK .u64 (addK .u64 (andK .u64 (shrK .u64 x0 1) 6148914691236517205) (andK .u64 x0 6148914691236517205)) 2) 3689348814741910323) (andK .u64 (addK .u64 (andK .u64 (shrK .u64 x0 1) 6148914691236517205) (andK .u64 x0 6148914691236517205)) 3689348814741910323))) 1085102592571150095) 8)) 16)) 32))) 127)) : math_bits_OnesCount64 x0 Q :=
  adv_go 6000 mixed math_bits_OnesCount64_rr (fa := [.gc]) (by kernel_rfl) h
theorem math_bits_OnesCount64_act (x0 : Int) {Q : Int → Prop} (h : math_bits_OnesCount64 x0 Q) : ACT Try.prog 42 [(.int .u64 x0)] [] (math_bits_OnesCount64_R Q) :=
  act_go Try.func42 (by rfl) (by kernel_rfl) math_bits_OnesCount64_rc (n0 := 0) rfl (by kernel_rfl) h
theorem math_bits_OnesCount64_ok (x0 : Int) (r : Int) (h : math_bits_OnesCount64 x0 (fun x => x = r)) : ACT Try.prog 42 [(.int .u64 x0)] [] (fun tv tL => tv = math_bits_OnesCount64_enc r ∧ tL = math_bits_OnesCount64_obj r) := act_det (math_bits_OnesCount64_act x0 h)

/-! math/bits.OnesCount -/
def math_bits_OnesCount_enc  : Int → TV := fun r => (.int .i64 r)
def math_bits_OnesCount_obj  : Int → List TO := fun r => []
def math_bits_OnesCount_R  (Q : Int → Prop) : TV → List TO → Prop := RetR (math_bits_OnesCount_enc) (math_bits_OnesCount_obj) Q
def math_bits_OnesCount_ret  (Q : Int → Prop) (r : Int) : Prop := math_bits_OnesCount_R Q (math_bits_OnesCount_enc r) (math_bits_OnesCount_obj r)
theorem math_bits_OnesCount_ret.intro  {Q : Int → Prop} {r : Int} (h : Q r) : math_bits_OnesCount_ret Q r := RetR.intro h
def math_bits_OnesCount_o2_0 : List WOp := .op (POper.mk (some 2) (.move (.const (.int .i64 0))) none) none :: []
def math_bits_OnesCount_w2 : WC := (.region math_bits_OnesCount_o2_0)
def math_bits_OnesCount_o6_3 : List WOp := .op (POper.mk (some 2) (.move (.tmp 5)) none) none :: []
def math_bits_OnesCount_o6_0 : List WOp := .op (POper.mk (some 3) (.move (.tmp 0)) none) none :: .op (POper.mk (some 4) (.conv .u32 (.tmp 3)) none) none :: .ann [.mask [4], .gc] :: .op (POper.mk (some 5) (.callf 41 [(.tmp 4)]) none) none :: math_bits_OnesCount_o6_3
def math_bits_OnesCount_w6 : WC := (.region math_bits_OnesCount_o6_0)
def math_bits_OnesCount_w5 : WC := (.seq math_bits_OnesCount_w6 .ret)
def math_bits_OnesCount_w4 : WC := (.cond (.const (.bool false)) math_bits_OnesCount_w5 .skip)
def math_bits_OnesCount_o10_2 : List WOp := .op (POper.mk (some 2) (.move (.tmp 7)) none) none :: []
def math_bits_OnesCount_o10_0 : List WOp := .op (POper.mk (some 6) (.move (.tmp 0)) none) none :: .ann [.mask [6], .gc] :: .op (POper.mk (some 7) (.callf 42 [(.tmp 6)]) none) none :: math_bits_OnesCount_o10_2
def math_bits_OnesCount_w10 : WC := (.region math_bits_OnesCount_o10_0)
def math_bits_OnesCount_w9 : WC := (.seq math_bits_OnesCount_w10 .ret)
def math_bits_OnesCount_w3 : WC := (.seq math_bits_OnesCount_w4 math_bits_OnesCount_w9)
def math_bits_OnesCount_w1 : WC := (.seq math_bits_OnesCount_w2 math_bits_OnesCount_w3)
theorem math_bits_OnesCount_rc : resolveC Try.prog [] (Try.f39.body.getD .skip) = some (WC.er math_bits_OnesCount_w1) := by kernel_rfl
theorem math_bits_OnesCount_rr : resolveR Try.prog Try.f39.results.toList = some [(.move (.tmp 2))] := by kernel_rfl
def math_bits_OnesCount (x0 : Int) (Q : Int → Prop) : Prop := Run Try.prog 0 (FinS Try.prog 0 Try.f39 (math_bits_OnesCount_R Q)) [.code math_bits_OnesCount_w1] [(.int .u64 x0), .und, .und, .und, .und, .und, .und, .und] []
def math_bits_OnesCount_c1 (x0 : Int) (Q : Int → Prop) : Prop := Run Try.prog 0 (FinS Try.prog 0 Try.f39 (math_bits_OnesCount_R Q)) [.ops (.op (POper.mk (some 7) (.callf 42 [(.tmp 6)]) none) none :: math_bits_OnesCount_o10_2), .code .ret] [.dead, .dead, .dead, .dead, .dead, .dead, (.int .u64 x0), .dead] []
theorem math_bits_OnesCount_step (x0 : Int) {Q : Int → Prop} (h :
    math_bits_OnesCount_c1 x0 Q) : math_bits_OnesCount x0 Q :=
  adv_go 6000 mixed math_bits_OnesCount_rr (fa := [.gc]) (by kernel_rfl) h
theorem math_bits_OnesCount_c1_step (x0 : Int) {Q : Int → Prop} (r1 : Int) (hc : math_bits_OnesCount64 x0 (fun x => x = r1)) (h :
    math_bits_OnesCount_ret Q r1) : math_bits_OnesCount_c1 x0 Q :=
  run_callf (tout := (lendOut [] 0 (math_bits_OnesCount64_enc r1) (math_bits_OnesCount64_obj r1))) (call_typed [] (math_bits_OnesCount64_ok x0 r1 hc) (by kernel_rfl) (by kernel_rfl) (by kernel_rfl)) (adv_go 6000 mixed math_bits_OnesCount_rr (fa := [.gc]) (by kernel_rfl) h)
theorem math_bits_OnesCount_act (x0 : Int) {Q : Int → Prop} (h : math_bits_OnesCount x0 Q) : ACT Try.prog 39 [(.int .u64 x0)] [] (math_bits_OnesCount_R Q) :=
  act_go Try.func39 (by rfl) (by kernel_rfl) math_bits_OnesCount_rc (n0 := 0) rfl (by kernel_rfl) h
theorem math_bits_OnesCount_ok (x0 : Int) (r : Int) (h : math_bits_OnesCount x0 (fun x => x = r)) : ACT Try.prog 39 [(.int .u64 x0)] [] (fun tv tL => tv = math_bits_OnesCount_enc r ∧ tL = math_bits_OnesCount_obj r) := act_det (math_bits_OnesCount_act x0 h)

/-! (*drover/view.Votes).Count -/
def view_Votes_Count_enc  : Int → TV := fun r => (.int .i64 r)
def view_Votes_Count_obj  : Int → List TO := fun r => []
def view_Votes_Count_R  (Q : Int → Prop) : TV → List TO → Prop := RetR (view_Votes_Count_enc) (view_Votes_Count_obj) Q
def view_Votes_Count_ret  (Q : Int → Prop) (r : Int) : Prop := view_Votes_Count_R Q (view_Votes_Count_enc r) (view_Votes_Count_obj r)
theorem view_Votes_Count_ret.intro  {Q : Int → Prop} {r : Int} (h : Q r) : view_Votes_Count_ret Q r := RetR.intro h
def view_Votes_Count_o2_0 : List WOp := .op (POper.mk (some 2) (.move (.const (.int .i64 0))) none) none :: []
def view_Votes_Count_w2 : WC := (.region view_Votes_Count_o2_0)
def view_Votes_Count_o5_0 : List WOp := .op (POper.mk (some 3) (.move (.tmp 0)) none) none :: .op (POper.mk (some 4) (.isnil 0 false (.tmp 3)) none) none :: []
def view_Votes_Count_w5 : WC := (.region view_Votes_Count_o5_0)
def view_Votes_Count_o8_0 : List WOp := .op (POper.mk (some 2) (.move (.const (.int .i64 0))) none) none :: []
def view_Votes_Count_w8 : WC := (.region view_Votes_Count_o8_0)
def view_Votes_Count_w7 : WC := (.seq view_Votes_Count_w8 .ret)
def view_Votes_Count_w6 : WC := (.cond (.tmp 4) view_Votes_Count_w7 .skip)
def view_Votes_Count_w4 : WC := (.seq view_Votes_Count_w5 view_Votes_Count_w6)
def view_Votes_Count_o12_5 : List WOp := .op (POper.mk (some 2) (.move (.tmp 9)) none) none :: []
def view_Votes_Count_o12_0 : List WOp := .op (POper.mk (some 5) (.move (.tmp 0)) none) none :: .op (POper.mk (some 6) (.nilc (.tmp 5)) none) none :: .op (POper.mk (some 7) (.faddr 1 (.tmp 6)) none) none :: .op (POper.mk (some 8) (.load1 (.tmp 7)) none) none :: .ann [.mask [8], .gc] :: .op (POper.mk (some 9) (.callf 39 [(.tmp 8)]) none) none :: view_Votes_Count_o12_5
def view_Votes_Count_w12 : WC := (.region view_Votes_Count_o12_0)
def view_Votes_Count_w11 : WC := (.seq view_Votes_Count_w12 .ret)
def view_Votes_Count_w3 : WC := (.seq view_Votes_Count_w4 view_Votes_Count_w11)
def view_Votes_Count_w1 : WC := (.seq view_Votes_Count_w2 view_Votes_Count_w3)
theorem view_Votes_Count_rc : resolveC Try.prog [] (Try.f25.body.getD .skip) = some (WC.er view_Votes_Count_w1) := by kernel_rfl
theorem view_Votes_Count_rr : resolveR Try.prog Try.f25.results.toList = some [(.move (.tmp 2))] := by kernel_rfl
def view_Votes_Count (v0 : eR3.T) (Q : Int → Prop) : Prop := Run Try.prog 0 (FinS Try.prog 0 Try.f25 (view_Votes_Count_R Q)) [.code view_Votes_Count_w1] [(.fp eR3 v0 0), .und, .und, .und, .und, .und, .und, .und, .und, .und] []
def view_Votes_Count_c1 (v0 : eR3.T) (Q : Int → Prop) : Prop := Run Try.prog 0 (FinS Try.prog 0 Try.f25 (view_Votes_Count_R Q)) [.ops (.op (POper.mk (some 9) (.callf 39 [(.tmp 8)]) none) none :: view_Votes_Count_o12_5), .code .ret] [.dead, .dead, .dead, .dead, .dead, .dead, .dead, .dead, (.int .u64 v0.2), .dead] []
theorem view_Votes_Count_step (v0 : eR3.T) {Q : Int → Prop} (h :
    view_Votes_Count_c1 v0 Q) : view_Votes_Count v0 Q :=
  adv_go 6000 mixed view_Votes_Count_rr (fa := [.gc]) (by kernel_rfl) h
theorem view_Votes_Count_c1_step (v0 : eR3.T) {Q : Int → Prop} (r1 : Int) (hc : math_bits_OnesCount v0.2 (fun x => x = r1)) (h :
    view_Votes_Count_ret Q r1) : view_Votes_Count_c1 v0 Q :=
  run_callf (tout := (lendOut [] 0 (math_bits_OnesCount_enc r1) (math_bits_OnesCount_obj r1))) (call_typed [] (math_bits_OnesCount_ok v0.2 r1 hc) (by kernel_rfl) (by kernel_rfl) (by kernel_rfl)) (adv_go 6000 mixed view_Votes_Count_rr (fa := [.gc]) (by kernel_rfl) h)
theorem view_Votes_Count_act (v0 : eR3.T) {Q : Int → Prop} (h : view_Votes_Count v0 Q) : ACT Try.prog 25 [(.fp eR3 v0 0)] [] (view_Votes_Count_R Q) :=
  act_go Try.func25 (by rfl) (by kernel_rfl) view_Votes_Count_rc (n0 := 0) rfl (by kernel_rfl) h
theorem view_Votes_Count_ok (v0 : eR3.T) (r : Int) (h : view_Votes_Count v0 (fun x => x = r)) : ACT Try.prog 25 [(.fp eR3 v0 0)] [] (fun tv tL => tv = view_Votes_Count_enc r ∧ tL = view_Votes_Count_obj r) := act_det (view_Votes_Count_act v0 h)

/-! (*drover/view.Votes).Enough -/
def view_Votes_Enough_enc  : Bool → TV := fun r => (.bool r)
def view_Votes_Enough_obj  : Bool → List TO := fun r => []
def view_Votes_Enough_R  (Q : Bool → Prop) : TV → List TO → Prop := RetR (view_Votes_Enough_enc) (view_Votes_Enough_obj) Q
def view_Votes_Enough_ret  (Q : Bool → Prop) (r : Bool) : Prop := view_Votes_Enough_R Q (view_Votes_Enough_enc r) (view_Votes_Enough_obj r)
theorem view_Votes_Enough_ret.intro  {Q : Bool → Prop} {r : Bool} (h : Q r) : view_Votes_Enough_ret Q r := RetR.intro h
def view_Votes_Enough_o2_0 : List WOp := .op (POper.mk (some 2) (.move (.const (.bool false))) none) none :: []
def view_Votes_Enough_w2 : WC := (.region view_Votes_Enough_o2_0)
def view_Votes_Enough_o4_17 : List WOp := .op (POper.mk (some 20) (.bin .geq (.tmp 14) (.tmp 19)) (some (12, true))) none :: .op (POper.mk (some 21) (.pick (.tmp 12) (.tmp 20) (.const (.bool false))) none) none :: .op (POper.mk (some 2) (.move (.tmp 21)) none) none :: []
def view_Votes_Enough_o4_12 : List WOp := .op (POper.mk (some 15) (.move (.tmp 0)) (some (12, true))) none :: .op (POper.mk (some 16) (.nilc (.tmp 15)) (some (12, true))) none :: .op (POper.mk (some 17) (.faddr 0 (.tmp 16)) (some (12, true))) none :: .op (POper.mk (some 18) (.load1 (.tmp 17)) (some (12, true))) none :: .op (POper.mk (some 19) (.callf 11 [(.tmp 18)]) (some (12, true))) none :: view_Votes_Enough_o4_17
def view_Votes_Enough_o4_0 : List WOp := .op (POper.mk (some 3) (.move (.tmp 0)) none) none :: .op (POper.mk (some 4) (.isnil 0 true (.tmp 3)) none) none :: .op (POper.mk (some 5) (.move (.tmp 4)) none) none :: .op (POper.mk (some 6) (.move (.tmp 0)) (some (5, true))) none :: .op (POper.mk (some 7) (.nilc (.tmp 6)) (some (5, true))) none :: .op (POper.mk (some 8) (.faddr 0 (.tmp 7)) (some (5, true))) none :: .op (POper.mk (some 9) (.load1 (.tmp 8)) (some (5, true))) none :: .op (POper.mk (some 10) (.bin .gtr (.tmp 9) (.const (.int .i64 0))) (some (5, true))) none :: .op (POper.mk (some 11) (.pick (.tmp 5) (.tmp 10) (.const (.bool false))) none) none :: .op (POper.mk (some 12) (.move (.tmp 11)) none) none :: .op (POper.mk (some 13) (.move (.tmp 0)) (some (12, true))) none :: .op (POper.mk (some 14) (.callf 25 [(.tmp 13)]) (some (12, true))) none :: view_Votes_Enough_o4_12
def view_Votes_Enough_e4 : List (List Nat) := [[], [0], [1, 0], [2, 1, 0], [3, 2, 1, 0], [4, 3, 2, 1, 0], [5, 4, 3, 2, 1, 0], [6, 5, 4, 3, 2, 1, 0], [2, 1, 0, 7, 6, 5, 4, 3], [8, 2, 1, 0, 7, 6, 5, 4, 3], [9, 8, 2, 1, 0, 7, 6, 5, 4, 3], [10, 9, 8, 2, 1, 0, 7, 6, 5, 4, 3], [9, 8, 2, 1, 0, 7, 6, 5, 4, 3], [12, 9, 8, 2, 1, 0, 7, 6, 5, 4, 3], [13, 12, 9, 8, 2, 1, 0, 7, 6, 5, 4, 3], [14, 13, 12, 9, 8, 2, 1, 0, 7, 6, 5, 4, 3], [15, 14, 13, 12, 9, 8, 2, 1, 0, 7, 6, 5, 4, 3, 11, 10], [11, 10, 9, 8, 2, 1, 0, 7, 6, 5, 4, 3, 16, 15, 14, 13, 12], [9, 8, 2, 1, 0, 7, 6, 5, 4, 3, 17, 11, 10, 16, 15, 14, 13, 12], [18, 9, 8, 2, 1, 0, 7, 6, 5, 4, 3, 17, 11, 10, 16, 15, 14, 13, 12]]
def view_Votes_Enough_w4 : WC := (.dregion view_Votes_Enough_o4_0 view_Votes_Enough_e4)
def view_Votes_Enough_w3 : WC := (.seq view_Votes_Enough_w4 .ret)
def view_Votes_Enough_w1 : WC := (.seq view_Votes_Enough_w2 view_Votes_Enough_w3)
theorem view_Votes_Enough_rc : resolveC Try.prog [] (Try.f24.body.getD .skip) = some (WC.er view_Votes_Enough_w1) := by kernel_rfl
theorem view_Votes_Enough_rr : resolveR Try.prog Try.f24.results.toList = some [(.move (.tmp 2))] := by kernel_rfl
def view_Votes_Enough (v0 : eR3.T) (Q : Bool → Prop) : Prop := Run Try.prog 0 (FinS Try.prog 0 Try.f24 (view_Votes_Enough_R Q)) [.code view_Votes_Enough_w1] [(.fp eR3 v0 0), .und, .und, .und, .und, .und, .und, .und, .und, .und, .und, .und, .und, .und, .und, .und, .und, .und, .und, .und, .und, .und] []
def view_Votes_Enough_c1 (v0 : eR3.T) (Q : Bool → Prop) : Prop := Run Try.prog 0 (FinS Try.prog 0 Try.f24 (view_Votes_Enough_R Q)) [.dops (.op (POper.mk (some 14) (.callf 25 [(.tmp 13)]) none) none :: view_Votes_Enough_o4_12) view_Votes_Enough_e4 [([], []), ([], []), ([], []), ([], []), ([], []), ([], []), ([], []), ([], []), ([], []), ([], []), ([], [])], .code .ret] [(.fp eR3 v0 0), .und, (.bool false), (.fp eR3 v0 0), (.bool true), (.bool true), (.fp eR3 v0 0), (.fp eR3 v0 0), (.fp eR3 v0 0), (.int .i64 v0.1), (.bool (decide (v0.1 > 0))), (.bool (decide (v0.1 > 0))), (.bool true), (.fp eR3 v0 0), .und, .und, .und, .und, .und, .und, .und, .und] []
def view_Votes_Enough_c2 (v0 : eR3.T) (r1 : Int) (Q : Bool → Prop) : Prop := Run Try.prog 0 (FinS Try.prog 0 Try.f24 (view_Votes_Enough_R Q)) [.dops (.op (POper.mk (some 19) (.callf 11 [(.tmp 18)]) none) none :: view_Votes_Enough_o4_17) view_Votes_Enough_e4 [([], []), ([], []), ([], []), ([], []), ([], []), ([], []), ([], []), ([], []), ([], []), ([], []), ([], []), ([], []), ([], []), ([], []), ([], []), ([], [])], .code .ret] [(.fp eR3 v0 0), .und, (.bool false), (.fp eR3 v0 0), (.bool true), (.bool true), (.fp eR3 v0 0), (.fp eR3 v0 0), (.fp eR3 v0 0), (.int .i64 v0.1), (.bool (decide (v0.1 > 0))), (.bool (decide (v0.1 > 0))), (.bool true), (.fp eR3 v0 0), (.int .i64 r1), (.fp eR3 v0 0), (.fp eR3 v0 0), (.fp eR3 v0 0), (.int .i64 v0.1), .und, .und, .und] []
theorem view_Votes_Enough_step (v0 : eR3.T) {Q : Bool → Prop} (h :
    Br (decide (v0.1 > 0))
      (view_Votes_Enough_c1 v0 Q)
      (view_Votes_Enough_ret Q false)) : view_Votes_Enough v0 Q :=
  adv_go 6000 mixed view_Votes_Enough_rr (fa := [.gc]) (by kernel_rfl) h
theorem view_Votes_Enough_c1_step (v0 : eR3.T) {Q : Bool → Prop} (r1 : Int) (hc : view_Votes_Count v0 (fun x => x = r1)) (h :
    view_Votes_Enough_c2 v0 r1 Q) : view_Votes_Enough_c1 v0 Q :=
  run_dcallf (tout := (lendOut [] 0 (view_Votes_Count_enc r1) (view_Votes_Count_obj r1))) (call_typed [] (view_Votes_Count_ok v0 r1 hc) (by kernel_rfl) (by kernel_rfl) (by kernel_rfl)) (adv_go 6000 mixed view_Votes_Enough_rr (fa := [.gc]) (by kernel_rfl) h)
theorem view_Votes_Enough_c2_step (v0 : eR3.T) (r1 : Int) {Q : Bool → Prop} (r2 : Int) (hc : view_Quorum v0.1 (fun x => x = r2)) (h :
    view_Votes_Enough_ret Q (decide (r1 ≥ r2))) : view_Votes_Enough_c2 v0 r1 Q :=
  run_dcallf (tout := (lendOut [] 0 (view_Quorum_enc r2) (view_Quorum_obj r2))) (call_typed [] (view_Quorum_ok v0.1 r2 hc) (by kernel_rfl) (by kernel_rfl) (by kernel_rfl)) (adv_go 6000 mixed view_Votes_Enough_rr (fa := [.gc]) (by kernel_rfl) h)
theorem view_Votes_Enough_act (v0 : eR3.T) {Q : Bool → Prop} (h : view_Votes_Enough v0 Q) : ACT Try.prog 24 [(.fp eR3 v0 0)] [] (view_Votes_Enough_R Q) :=
  act_go Try.func24 (by rfl) (by kernel_rfl) view_Votes_Enough_rc (n0 := 0) rfl (by kernel_rfl) h
theorem view_Votes_Enough_ok (v0 : eR3.T) (r : Bool) (h : view_Votes_Enough v0 (fun x => x = r)) : ACT Try.prog 24 [(.fp eR3 v0 0)] [] (fun tv tL => tv = view_Votes_Enough_enc r ∧ tL = view_Votes_Enough_obj r) := act_det (view_Votes_Enough_act v0 h)

/-! drover/droverlaw08.ViewMeets -/
def law08_ViewMeets_enc  : Bool → TV := fun r => (.bool r)
def law08_ViewMeets_obj  : Bool → List TO := fun r => []
def law08_ViewMeets_R  (Q : Bool → Prop) : TV → List TO → Prop := RetR (law08_ViewMeets_enc) (law08_ViewMeets_obj) Q
def law08_ViewMeets_ret  (Q : Bool → Prop) (r : Bool) : Prop := law08_ViewMeets_R Q (law08_ViewMeets_enc r) (law08_ViewMeets_obj r)
theorem law08_ViewMeets_ret.intro  {Q : Bool → Prop} {r : Bool} (h : Q r) : law08_ViewMeets_ret Q r := RetR.intro h
def law08_ViewMeets_o2_0 : List WOp := .op (POper.mk (some 6) (.move (.const (.bool false))) none) none :: []
def law08_ViewMeets_w2 : WC := (.region law08_ViewMeets_o2_0)
def law08_ViewMeets_o4_0 : List WOp := .op (POper.mk (some 12) (.move (.tmp 0)) none) none :: .op (POper.mk (some 13) (.bin .rem (.tmp 12) (.const (.int .u64 4))) none) none :: .op (POper.mk (some 14) (.conv .i64 (.tmp 13)) none) none :: .op (POper.mk (some 15) (.bin .add (.const (.int .i64 2)) (.tmp 14)) none) none :: .op (POper.mk (some 7) (.move (.tmp 15)) none) none :: []
def law08_ViewMeets_w4 : WC := (.region law08_ViewMeets_o4_0)
def law08_ViewMeets_o6_4 : List WOp := .op (POper.mk (some 8) (.move (.tmp 17)) none) none :: .op (POper.mk (some 9) (.move (.tmp 19)) none) none :: []
def law08_ViewMeets_o6_2 : List WOp := .op (POper.mk (some 18) (.move (.tmp 7)) none) none :: .ann [.mask [1, 2, 7, 17, 18], .gc] :: .op (POper.mk (some 19) (.callf 21 [(.tmp 18)]) none) none :: law08_ViewMeets_o6_4
def law08_ViewMeets_o6_0 : List WOp := .op (POper.mk (some 16) (.move (.tmp 7)) none) none :: .ann [.mask [1, 2, 7, 16], .gc] :: .op (POper.mk (some 17) (.callf 21 [(.tmp 16)]) none) none :: law08_ViewMeets_o6_2
def law08_ViewMeets_w6 : WC := (.region law08_ViewMeets_o6_0)
def law08_ViewMeets_o9_0 : List WOp := .op (POper.mk (some 20) (.move (.tmp 8)) none) none :: .op (POper.mk (some 21) (.isnil 0 false (.tmp 20)) none) none :: .op (POper.mk (some 22) (.move (.tmp 21)) none) none :: .op (POper.mk (some 23) (.move (.tmp 9)) (some (22, false))) none :: .op (POper.mk (some 24) (.isnil 0 false (.tmp 23)) (some (22, false))) none :: .op (POper.mk (some 25) (.pick (.tmp 22) (.const (.bool true)) (.tmp 24)) none) none :: []
def law08_ViewMeets_w9 : WC := (.region law08_ViewMeets_o9_0)
def law08_ViewMeets_o12_0 : List WOp := .op (POper.mk (some 6) (.move (.const (.bool false))) none) none :: []
def law08_ViewMeets_w12 : WC := (.region law08_ViewMeets_o12_0)
def law08_ViewMeets_w11 : WC := (.seq law08_ViewMeets_w12 .ret)
def law08_ViewMeets_w10 : WC := (.cond (.tmp 25) law08_ViewMeets_w11 .skip)
def law08_ViewMeets_w8 : WC := (.seq law08_ViewMeets_w9 law08_ViewMeets_w10)
def law08_ViewMeets_o16_0 : List WOp := .op (POper.mk (some 10) (.move (.const (.bool false))) none) none :: []
def law08_ViewMeets_w16 : WC := (.region law08_ViewMeets_o16_0)
def law08_ViewMeets_o19_0 : List WOp := .op (POper.mk (some 11) (.move (.const (.int .i64 1))) none) none :: []
def law08_ViewMeets_w19 : WC := (.region law08_ViewMeets_o19_0)
def law08_ViewMeets_o24_0 : List WOp := .op (POper.mk (some 26) (.move (.tmp 11)) none) none :: .op (POper.mk (some 27) (.move (.tmp 7)) none) none :: .op (POper.mk (some 28) (.bin .leq (.tmp 26) (.tmp 27)) none) none :: []
def law08_ViewMeets_w24 : WC := (.region law08_ViewMeets_o24_0)
def law08_ViewMeets_w25 : WC := (.cond (.tmp 28) .skip (.exit 0))
def law08_ViewMeets_w23 : WC := (.seq law08_ViewMeets_w24 law08_ViewMeets_w25)
def law08_ViewMeets_o32_0 : List WOp := .op (POper.mk (some 31) (.move (.tmp 1)) none) none :: .op (POper.mk (some 32) (.move (.tmp 11)) none) none :: .op (POper.mk (some 33) (.conv .u64 (.tmp 32)) none) none :: .op (POper.mk (some 34) (.bin .shr (.tmp 31) (.tmp 33)) none) none :: .op (POper.mk (some 35) (.bin .and (.tmp 34) (.const (.int .u64 1))) none) none :: .op (POper.mk (some 36) (.bin .eql (.tmp 35) (.const (.int .u64 1))) none) none :: []
def law08_ViewMeets_w32 : WC := (.region law08_ViewMeets_o32_0)
def law08_ViewMeets_o34_3 : List WOp := []
def law08_ViewMeets_o34_0 : List WOp := .op (POper.mk (some 37) (.move (.tmp 8)) none) none :: .op (POper.mk (some 38) (.move (.tmp 11)) none) none :: .ann [.mask [1, 2, 7, 8, 9, 10, 11, 37, 38], .gc] :: .op (POper.mk (some 39) (.callf 22 [(.tmp 37), (.tmp 38)]) none) none :: law08_ViewMeets_o34_3
def law08_ViewMeets_w34 : WC := (.region law08_ViewMeets_o34_0)
def law08_ViewMeets_w33 : WC := (.cond (.tmp 36) law08_ViewMeets_w34 .skip)
def law08_ViewMeets_w31 : WC := (.seq law08_ViewMeets_w32 law08_ViewMeets_w33)
def law08_ViewMeets_o38_0 : List WOp := .op (POper.mk (some 40) (.move (.tmp 2)) none) none :: .op (POper.mk (some 41) (.move (.tmp 11)) none) none :: .op (POper.mk (some 42) (.conv .u64 (.tmp 41)) none) none :: .op (POper.mk (some 43) (.bin .shr (.tmp 40) (.tmp 42)) none) none :: .op (POper.mk (some 44) (.bin .and (.tmp 43) (.const (.int .u64 1))) none) none :: .op (POper.mk (some 45) (.bin .eql (.tmp 44) (.const (.int .u64 1))) none) none :: []
def law08_ViewMeets_w38 : WC := (.region law08_ViewMeets_o38_0)
def law08_ViewMeets_o40_3 : List WOp := []
def law08_ViewMeets_o40_0 : List WOp := .op (POper.mk (some 46) (.move (.tmp 9)) none) none :: .op (POper.mk (some 47) (.move (.tmp 11)) none) none :: .ann [.mask [1, 2, 7, 8, 9, 10, 11, 46, 47], .gc] :: .op (POper.mk (some 48) (.callf 22 [(.tmp 46), (.tmp 47)]) none) none :: law08_ViewMeets_o40_3
def law08_ViewMeets_w40 : WC := (.region law08_ViewMeets_o40_0)
def law08_ViewMeets_w39 : WC := (.cond (.tmp 45) law08_ViewMeets_w40 .skip)
def law08_ViewMeets_w37 : WC := (.seq law08_ViewMeets_w38 law08_ViewMeets_w39)
def law08_ViewMeets_o42_9 : List WOp := .op (POper.mk (some 58) (.pick (.tmp 54) (.tmp 57) (.const (.bool false))) (some (50, false))) none :: .op (POper.mk (some 59) (.pick (.tmp 50) (.const (.bool true)) (.tmp 58)) none) none :: .op (POper.mk (some 10) (.move (.tmp 59)) none) none :: []
def law08_ViewMeets_o42_5 : List WOp := .op (POper.mk (some 54) (.move (.tmp 53)) (some (50, false))) none :: .op (POper.mk (some 55) (.move (.tmp 9)) (some (54, true))) none :: .op (POper.mk (some 56) (.move (.tmp 11)) (some (54, true))) none :: .ann [.mask [1, 2, 7, 8, 9, 11, 50, 54, 55, 56], .gc] :: .op (POper.mk (some 57) (.callf 23 [(.tmp 55), (.tmp 56)]) (some (54, true))) none :: law08_ViewMeets_o42_9
def law08_ViewMeets_o42_0 : List WOp := .op (POper.mk (some 49) (.move (.tmp 10)) none) none :: .op (POper.mk (some 50) (.move (.tmp 49)) none) none :: .op (POper.mk (some 51) (.move (.tmp 8)) (some (50, false))) none :: .op (POper.mk (some 52) (.move (.tmp 11)) (some (50, false))) none :: .ann [.mask [1, 2, 7, 8, 9, 11, 50, 51, 52], .gc] :: .op (POper.mk (some 53) (.callf 23 [(.tmp 51), (.tmp 52)]) (some (50, false))) none :: law08_ViewMeets_o42_5
def law08_ViewMeets_w42 : WC := (.region law08_ViewMeets_o42_0)
def law08_ViewMeets_w36 : WC := (.seq law08_ViewMeets_w37 (.ann [.mask [1, 2, 7, 8, 9, 10, 11], .gc] (.cut law08_ViewMeets_w42)))
def law08_ViewMeets_w30 : WC := (.seq law08_ViewMeets_w31 (.ann [.mask [1, 2, 7, 8, 9, 10, 11], .gc] (.cut law08_ViewMeets_w36)))
def law08_ViewMeets_w29 : WC := (.block 1 law08_ViewMeets_w30)
def law08_ViewMeets_o43_0 : List WOp := .op (POper.mk (some 29) (.move (.tmp 11)) none) none :: .op (POper.mk (some 30) (.bin .add (.tmp 29) (.const (.int .i64 1))) none) none :: .op (POper.mk (some 11) (.move (.tmp 30)) none) none :: []
def law08_ViewMeets_w43 : WC := (.region law08_ViewMeets_o43_0)
def law08_ViewMeets_w28 : WC := (.seq law08_ViewMeets_w29 law08_ViewMeets_w43)
def law08_ViewMeets_w22 : WC := (.seq law08_ViewMeets_w23 law08_ViewMeets_w28)
def law08_ViewMeets_w21 : WC := (.loop [.mask [1, 2, 7, 8, 9, 10, 11], .gc] law08_ViewMeets_w22)
def law08_ViewMeets_w20 : WC := (.block 0 (.ann [.mask [1, 2, 7, 8, 9, 10, 11], .gc] law08_ViewMeets_w21))
def law08_ViewMeets_w18 : WC := (.seq law08_ViewMeets_w19 law08_ViewMeets_w20)
def law08_ViewMeets_o46_5 : List WOp := .op (POper.mk (some 65) (.pick (.tmp 62) (.tmp 64) (.const (.bool false))) none) none :: .op (POper.mk (some 66) (.move (.tmp 65)) none) none :: .op (POper.mk (some 67) (.move (.tmp 10)) (some (66, true))) none :: .op (POper.mk (some 68) (.un .not (.tmp 67)) (some (66, true))) none :: .op (POper.mk (some 69) (.pick (.tmp 66) (.tmp 68) (.const (.bool false))) none) none :: []
def law08_ViewMeets_o46_2 : List WOp := .op (POper.mk (some 62) (.move (.tmp 61)) none) none :: .op (POper.mk (some 63) (.move (.tmp 9)) (some (62, true))) none :: .ann [.mask [7, 8, 10, 62, 63], .gc] :: .op (POper.mk (some 64) (.callf 24 [(.tmp 63)]) (some (62, true))) none :: law08_ViewMeets_o46_5
def law08_ViewMeets_o46_0 : List WOp := .op (POper.mk (some 60) (.move (.tmp 8)) none) none :: .ann [.mask [7, 8, 9, 10, 60], .gc] :: .op (POper.mk (some 61) (.callf 24 [(.tmp 60)]) none) none :: law08_ViewMeets_o46_2
def law08_ViewMeets_w46 : WC := (.region law08_ViewMeets_o46_0)
def law08_ViewMeets_o49_0 : List WOp := .op (POper.mk (some 6) (.move (.const (.bool false))) none) none :: []
def law08_ViewMeets_w49 : WC := (.region law08_ViewMeets_o49_0)
def law08_ViewMeets_w48 : WC := (.seq law08_ViewMeets_w49 .ret)
def law08_ViewMeets_w47 : WC := (.cond (.tmp 69) law08_ViewMeets_w48 .skip)
def law08_ViewMeets_w45 : WC := (.seq law08_ViewMeets_w46 (.ann [.mask [7, 8, 69], .gc] (.cut law08_ViewMeets_w47)))
def law08_ViewMeets_o53_19 : List WOp := .op (POper.mk (some 89) (.pick (.tmp 87) (.tmp 88) (.const (.bool false))) none) none :: .op (POper.mk (some 6) (.move (.tmp 89)) none) none :: []
def law08_ViewMeets_o53_14 : List WOp := .op (POper.mk (some 84) (.bin .geq (.tmp 81) (.tmp 83)) (some (77, true))) none :: .op (POper.mk (some 85) (.binB false (.tmp 79) (.tmp 84)) (some (77, true))) none :: .op (POper.mk (some 86) (.pick (.tmp 77) (.tmp 85) (.const (.bool false))) none) none :: .op (POper.mk (some 87) (.move (.tmp 86)) none) none :: .ann [.mask [87], .gc] :: .op (POper.mk (some 88) (.callf 17 []) (some (87, true))) none :: law08_ViewMeets_o53_19
def law08_ViewMeets_o53_12 : List WOp := .op (POper.mk (some 82) (.move (.tmp 7)) (some (77, true))) none :: .ann [.mask [77, 79, 81, 82], .gc] :: .op (POper.mk (some 83) (.callf 11 [(.tmp 82)]) (some (77, true))) none :: law08_ViewMeets_o53_14
def law08_ViewMeets_o53_10 : List WOp := .op (POper.mk (some 80) (.move (.tmp 8)) (some (77, true))) none :: .ann [.mask [7, 77, 79, 80], .gc] :: .op (POper.mk (some 81) (.callf 25 [(.tmp 80)]) (some (77, true))) none :: law08_ViewMeets_o53_12
def law08_ViewMeets_o53_6 : List WOp := .op (POper.mk (some 76) (.bin .geq (.tmp 73) (.tmp 75)) none) none :: .op (POper.mk (some 77) (.move (.tmp 76)) none) none :: .op (POper.mk (some 78) (.move (.tmp 8)) (some (77, true))) none :: .ann [.mask [7, 8, 77, 78], .gc] :: .op (POper.mk (some 79) (.callf 24 [(.tmp 78)]) (some (77, true))) none :: law08_ViewMeets_o53_10
def law08_ViewMeets_o53_3 : List WOp := .op (POper.mk (some 73) (.bin .sub (.tmp 70) (.tmp 72)) none) none :: .op (POper.mk (some 74) (.move (.tmp 7)) none) none :: .ann [.mask [7, 8, 73, 74], .gc] :: .op (POper.mk (some 75) (.callf 11 [(.tmp 74)]) none) none :: law08_ViewMeets_o53_6
def law08_ViewMeets_o53_0 : List WOp := .op (POper.mk (some 70) (.move (.tmp 7)) none) none :: .op (POper.mk (some 71) (.move (.tmp 7)) none) none :: .ann [.mask [7, 8, 70, 71], .gc] :: .op (POper.mk (some 72) (.callf 13 [(.tmp 71)]) none) none :: law08_ViewMeets_o53_3
def law08_ViewMeets_w53 : WC := (.region law08_ViewMeets_o53_0)
def law08_ViewMeets_w52 : WC := (.seq law08_ViewMeets_w53 .ret)
def law08_ViewMeets_w44 : WC := (.seq law08_ViewMeets_w45 (.ann [.mask [7, 8], .gc] (.cut law08_ViewMeets_w52)))
def law08_ViewMeets_w17 : WC := (.seq law08_ViewMeets_w18 law08_ViewMeets_w44)
def law08_ViewMeets_w15 : WC := (.seq law08_ViewMeets_w16 law08_ViewMeets_w17)
def law08_ViewMeets_w7 : WC := (.seq law08_ViewMeets_w8 (.ann [.mask [1, 2, 7, 8, 9], .gc] (.cut law08_ViewMeets_w15)))
def law08_ViewMeets_w5 : WC := (.seq law08_ViewMeets_w6 law08_ViewMeets_w7)
def law08_ViewMeets_w3 : WC := (.seq law08_ViewMeets_w4 law08_ViewMeets_w5)
def law08_ViewMeets_w1 : WC := (.seq law08_ViewMeets_w2 law08_ViewMeets_w3)
theorem law08_ViewMeets_rc : resolveC Try.prog [] (Try.f6.body.getD .skip) = some (WC.er law08_ViewMeets_w1) := by kernel_rfl
theorem law08_ViewMeets_rr : resolveR Try.prog Try.f6.results.toList = some [(.move (.tmp 6))] := by kernel_rfl
def law08_ViewMeets (n0 : Int) (a1 : Int) (b2 : Int) (Q : Bool → Prop) : Prop := Run Try.prog 0 (FinS Try.prog 0 Try.f6 (law08_ViewMeets_R Q)) [.code law08_ViewMeets_w1] [(.int .u64 n0), (.int .u64 a1), (.int .u64 b2), .und, .und, .und, .und, .und, .und, .und, .und, .und, .und, .und, .und, .und, .und, .und, .und, .und, .und, .und, .und, .und, .und, .und, .und, .und, .und, .und, .und, .und, .und, .und, .und, .und, .und, .und, .und, .und, .und, .und, .und, .und, .und, .und, .und, .und, .und, .und, .und, .und, .und, .und, .und, .und, .und, .und, .und, .und, .und, .und, .und, .und, .und, .und, .und, .und, .und, .und, .und, .und, .und, .und, .und, .und, .und, .und, .und, .und, .und, .und, .und, .und, .und, .und, .und, .und, .und, .und] []
def law08_ViewMeets_c1 (a1 : Int) (b2 : Int) (n0 : Int) (Q : Bool → Prop) : Prop := Run Try.prog 0 (FinS Try.prog 0 Try.f6 (law08_ViewMeets_R Q)) [.ops (.op (POper.mk (some 17) (.callf 21 [(.tmp 16)]) none) none :: law08_ViewMeets_o6_2), .code law08_ViewMeets_w7] [.dead, (.int .u64 a1), (.int .u64 b2), .dead, .dead, .dead, .dead, (.int .i64 (addK .i64 2 (convK .i64 (remK n0 4)))), .dead, .dead, .dead, .dead, .dead, .dead, .dead, .dead, (.int .i64 (addK .i64 2 (convK .i64 (remK n0 4)))), .dead, .dead, .dead, .dead, .dead, .dead, .dead, .dead, .dead, .dead, .dead, .dead, .dead, .dead, .dead, .dead, .dead, .dead, .dead, .dead, .dead, .dead, .dead, .dead, .dead, .dead, .dead, .dead, .dead, .dead, .dead, .dead, .dead, .dead, .dead, .dead, .dead, .dead, .dead, .dead, .dead, .dead, .dead, .dead, .dead, .dead, .dead, .dead, .dead, .dead, .dead, .dead, .dead, .dead, .dead, .dead, .dead, .dead, .dead, .dead, .dead, .dead, .dead, .dead, .dead, .dead, .dead, .dead, .dead, .dead, .dead, .dead, .dead] []
def law08_ViewMeets_c2 (a1 : Int) (b2 : Int) (n0 : Int) (Q : Bool → Prop) : Prop := Run Try.prog 0 (FinS Try.prog 0 Try.f6 (law08_ViewMeets_R Q)) [.ops (.op (POper.mk (some 19) (.callf 21 [(.tmp 18)]) none) none :: law08_ViewMeets_o6_4), .code law08_ViewMeets_w7] [.dead, (.int .u64 a1), (.int .u64 b2), .dead, .dead, .dead, .dead, (.int .i64 (addK .i64 2 (convK .i64 (remK n0 4)))), .dead, .dead, .dead, .dead, .dead, .dead, .dead, .dead, .dead, .nilp, (.int .i64 (addK .i64 2 (convK .i64 (remK n0 4)))), .dead, .dead, .dead, .dead, .dead, .dead, .dead, .dead, .dead, .dead, .dead, .dead, .dead, .dead, .dead, .dead, .dead, .dead, .dead, .dead, .dead, .dead, .dead, .dead, .dead, .dead, .dead, .dead, .dead, .dead, .dead, .dead, .dead, .dead, .dead, .dead, .dead, .dead, .dead, .dead, .dead, .dead, .dead, .dead, .dead, .dead, .dead, .dead, .dead, .dead, .dead, .dead, .dead, .dead, .dead, .dead, .dead, .dead, .dead, .dead, .dead, .dead, .dead, .dead, .dead, .dead, .dead, .dead, .dead, .dead, .dead] []
def law08_ViewMeets_c3 (a1 : Int) (b2 : Int) (n0 : Int) (r4 : eR3.T) (Q : Bool → Prop) : Prop := Run Try.prog 0 (FinS Try.prog 0 Try.f6 (law08_ViewMeets_R Q)) [.ops (.op (POper.mk (some 19) (.callf 21 [(.tmp 18)]) none) none :: law08_ViewMeets_o6_4), .code law08_ViewMeets_w7] [.dead, (.int .u64 a1), (.int .u64 b2), .dead, .dead, .dead, .dead, (.int .i64 (addK .i64 2 (convK .i64 (remK n0 4)))), .dead, .dead, .dead, .dead, .dead, .dead, .dead, .dead, .dead, (.ptr 0 0), (.int .i64 (addK .i64 2 (convK .i64 (remK n0 4)))), .dead, .dead, .dead, .dead, .dead, .dead, .dead, .dead, .dead, .dead, .dead, .dead, .dead, .dead, .dead, .dead, .dead, .dead, .dead, .dead, .dead, .dead, .dead, .dead, .dead, .dead, .dead, .dead, .dead, .dead, .dead, .dead, .dead, .dead, .dead, .dead, .dead, .dead, .dead, .dead, .dead, .dead, .dead, .dead, .dead, .dead, .dead, .dead, .dead, .dead, .dead, .dead, .dead, .dead, .dead, .dead, .dead, .dead, .dead, .dead, .dead, .dead, .dead, .dead, .dead, .dead, .dead, .dead, .dead, .dead, .dead] [(.arr [(.int .i64 r4.1), (.int .u64 r4.2)])]
def law08_ViewMeets_k1 (a1 : Int) (b2 : Int) (n0 : Int) (r4 : eR3.T) (r5 : eR3.T) (Q : Bool → Prop) : Prop := Run Try.prog 0 (FinS Try.prog 0 Try.f6 (law08_ViewMeets_R Q)) [.code law08_ViewMeets_w15] [.dead, (.int .u64 a1), (.int .u64 b2), .dead, .dead, .dead, .dead, (.int .i64 (addK .i64 2 (convK .i64 (remK n0 4)))), (.ptr 0 0), (.ptr 1 0), .dead, .dead, .dead, .dead, .dead, .dead, .dead, .dead, .dead, .dead, .dead, .dead, .dead, .dead, .dead, .dead, .dead, .dead, .dead, .dead, .dead, .dead, .dead, .dead, .dead, .dead, .dead, .dead, .dead, .dead, .dead, .dead, .dead, .dead, .dead, .dead, .dead, .dead, .dead, .dead, .dead, .dead, .dead, .dead, .dead, .dead, .dead, .dead, .dead, .dead, .dead, .dead, .dead, .dead, .dead, .dead, .dead, .dead, .dead, .dead, .dead, .dead, .dead, .dead, .dead, .dead, .dead, .dead, .dead, .dead, .dead, .dead, .dead, .dead, .dead, .dead, .dead, .dead, .dead, .dead] [(.arr [(.int .i64 r4.1), (.int .u64 r4.2)]), (.arr [(.int .i64 r5.1), (.int .u64 r5.2)])]
def law08_ViewMeets_l2 (a1 : Int) (b2 : Int) (n0 : Int) (common10 : Bool) (i11 : Int) (x6 : Int) (x7 : Int) (y8 : Int) (y9 : Int) (Q : Bool → Prop) : Prop := Run Try.prog 0 (FinS Try.prog 0 Try.f6 (law08_ViewMeets_R Q)) [.lp [.mask [1, 2, 7, 8, 9, 10, 11], .gc] law08_ViewMeets_w22, .bend 0, .code law08_ViewMeets_w44] [.dead, (.int .u64 a1), (.int .u64 b2), .dead, .dead, .dead, .dead, (.int .i64 (addK .i64 2 (convK .i64 (remK n0 4)))), (.ptr 0 0), (.ptr 1 0), (.bool common10), (.int .i64 i11), .dead, .dead, .dead, .dead, .dead, .dead, .dead, .dead, .dead, .dead, .dead, .dead, .dead, .dead, .dead, .dead, .dead, .dead, .dead, .dead, .dead, .dead, .dead, .dead, .dead, .dead, .dead, .dead, .dead, .dead, .dead, .dead, .dead, .dead, .dead, .dead, .dead, .dead, .dead, .dead, .dead, .dead, .dead, .dead, .dead, .dead, .dead, .dead, .dead, .dead, .dead, .dead, .dead, .dead, .dead, .dead, .dead, .dead, .dead, .dead, .dead, .dead, .dead, .dead, .dead, .dead, .dead, .dead, .dead, .dead, .dead, .dead, .dead, .dead, .dead, .dead, .dead, .dead] [(.arr [(.int .i64 x6), (.int .u64 x7)]), (.arr [(.int .i64 y8), (.int .u64 y9)])]
def law08_ViewMeets_c4 (a1 : Int) (b2 : Int) (n0 : Int) (common10 : Bool) (i11 : Int) (x6 : Int) (x7 : Int) (y8 : Int) (y9 : Int) (Q : Bool → Prop) : Prop := Run Try.prog 0 (FinS Try.prog 0 Try.f6 (law08_ViewMeets_R Q)) [.ops (.op (POper.mk (some 39) (.callf 22 [(.tmp 37), (.tmp 38)]) none) none :: law08_ViewMeets_o34_3), .code (.ann [.mask [1, 2, 7, 8, 9, 10, 11], .gc] (.cut law08_ViewMeets_w36)), .bend 1, .code law08_ViewMeets_w43, .lp [.mask [1, 2, 7, 8, 9, 10, 11], .gc] law08_ViewMeets_w22, .bend 0, .code law08_ViewMeets_w44] [.dead, (.int .u64 a1), (.int .u64 b2), .dead, .dead, .dead, .dead, (.int .i64 (addK .i64 2 (convK .i64 (remK n0 4)))), (.ptr 0 0), (.ptr 1 0), (.bool common10), (.int .i64 i11), .dead, .dead, .dead, .dead, .dead, .dead, .dead, .dead, .dead, .dead, .dead, .dead, .dead, .dead, .dead, .dead, .dead, .dead, .dead, .dead, .dead, .dead, .dead, .dead, .dead, (.ptr 0 0), (.int .i64 i11), .dead, .dead, .dead, .dead, .dead, .dead, .dead, .dead, .dead, .dead, .dead, .dead, .dead, .dead, .dead, .dead, .dead, .dead, .dead, .dead, .dead, .dead, .dead, .dead, .dead, .dead, .dead, .dead, .dead, .dead, .dead, .dead, .dead, .dead, .dead, .dead, .dead, .dead, .dead, .dead, .dead, .dead, .dead, .dead, .dead, .dead, .dead, .dead, .dead, .dead, .dead] [(.arr [(.int .i64 x6), (.int .u64 x7)]), (.arr [(.int .i64 y8), (.int .u64 y9)])]
def law08_ViewMeets_k3 (a1 : Int) (b2 : Int) (n0 : Int) (common10 : Bool) (i11 : Int) (x13 : Int) (x14 : Int) (y8 : Int) (y9 : Int) (Q : Bool → Prop) : Prop := Run Try.prog 0 (FinS Try.prog 0 Try.f6 (law08_ViewMeets_R Q)) [.code law08_ViewMeets_w36, .bend 1, .code law08_ViewMeets_w43, .lp [.mask [1, 2, 7, 8, 9, 10, 11], .gc] law08_ViewMeets_w22, .bend 0, .code law08_ViewMeets_w44] [.dead, (.int .u64 a1), (.int .u64 b2), .dead, .dead, .dead, .dead, (.int .i64 (addK .i64 2 (convK .i64 (remK n0 4)))), (.ptr 0 0), (.ptr 1 0), (.bool common10), (.int .i64 i11), .dead, .dead, .dead, .dead, .dead, .dead, .dead, .dead, .dead, .dead, .dead, .dead, .dead, .dead, .dead, .dead, .dead, .dead, .dead, .dead, .dead, .dead, .dead, .dead, .dead, .dead, .dead, .dead, .dead, .dead, .dead, .dead, .dead, .dead, .dead, .dead, .dead, .dead, .dead, .dead, .dead, .dead, .dead, .dead, .dead, .dead, .dead, .dead, .dead, .dead, .dead, .dead, .dead, .dead, .dead, .dead, .dead, .dead, .dead, .dead, .dead, .dead, .dead, .dead, .dead, .dead, .dead, .dead, .dead, .dead, .dead, .dead, .dead, .dead, .dead, .dead, .dead, .dead] [(.arr [(.int .i64 x13), (.int .u64 x14)]), (.arr [(.int .i64 y8), (.int .u64 y9)])]
def law08_ViewMeets_c5 (a1 : Int) (b2 : Int) (n0 : Int) (common10 : Bool) (i11 : Int) (x13 : Int) (x14 : Int) (y8 : Int) (y9 : Int) (Q : Bool → Prop) : Prop := Run Try.prog 0 (FinS Try.prog 0 Try.f6 (law08_ViewMeets_R Q)) [.ops (.op (POper.mk (some 48) (.callf 22 [(.tmp 46), (.tmp 47)]) none) none :: law08_ViewMeets_o40_3), .code (.ann [.mask [1, 2, 7, 8, 9, 10, 11], .gc] (.cut law08_ViewMeets_w42)), .bend 1, .code law08_ViewMeets_w43, .lp [.mask [1, 2, 7, 8, 9, 10, 11], .gc] law08_ViewMeets_w22, .bend 0, .code law08_ViewMeets_w44] [.dead, (.int .u64 a1), (.int .u64 b2), .dead, .dead, .dead, .dead, (.int .i64 (addK .i64 2 (convK .i64 (remK n0 4)))), (.ptr 0 0), (.ptr 1 0), (.bool common10), (.int .i64 i11), .dead, .dead, .dead, .dead, .dead, .dead, .dead, .dead, .dead, .dead, .dead, .dead, .dead, .dead, .dead, .dead, .dead, .dead, .dead, .dead, .dead, .dead, .dead, .dead, .dead, .dead, .dead, .dead, .dead, .dead, .dead, .dead, .dead, .dead, (.ptr 1 0), (.int .i64 i11), .dead, .dead, .dead, .dead, .dead, .dead, .dead, .dead, .dead, .dead, .dead, .dead, .dead, .dead, .dead, .dead, .dead, .dead, .dead, .dead, .dead, .dead, .dead, .dead, .dead, .dead, .dead, .dead, .dead, .dead, .dead, .dead, .dead, .dead, .dead, .dead, .dead, .dead, .dead, .dead, .dead, .dead] [(.arr [(.int .i64 x13), (.int .u64 x14)]), (.arr [(.int .i64 y8), (.int .u64 y9)])]
def law08_ViewMeets_k4 (a1 : Int) (b2 : Int) (n0 : Int) (common10 : Bool) (i11 : Int) (x13 : Int) (x14 : Int) (y16 : Int) (y17 : Int) (Q : Bool → Prop) : Prop := Run Try.prog 0 (FinS Try.prog 0 Try.f6 (law08_ViewMeets_R Q)) [.code law08_ViewMeets_w42, .bend 1, .code law08_ViewMeets_w43, .lp [.mask [1, 2, 7, 8, 9, 10, 11], .gc] law08_ViewMeets_w22, .bend 0, .code law08_ViewMeets_w44] [.dead, (.int .u64 a1), (.int .u64 b2), .dead, .dead, .dead, .dead, (.int .i64 (addK .i64 2 (convK .i64 (remK n0 4)))), (.ptr 0 0), (.ptr 1 0), (.bool common10), (.int .i64 i11), .dead, .dead, .dead, .dead, .dead, .dead, .dead, .dead, .dead, .dead, .dead, .dead, .dead, .dead, .dead, .dead, .dead, .dead, .dead, .dead, .dead, .dead, .dead, .dead, .dead, .dead, .dead, .dead, .dead, .dead, .dead, .dead, .dead, .dead, .dead, .dead, .dead, .dead, .dead, .dead, .dead, .dead, .dead, .dead, .dead, .dead, .dead, .dead, .dead, .dead, .dead, .dead, .dead, .dead, .dead, .dead, .dead, .dead, .dead, .dead, .dead, .dead, .dead, .dead, .dead, .dead, .dead, .dead, .dead, .dead, .dead, .dead, .dead, .dead, .dead, .dead, .dead, .dead] [(.arr [(.int .i64 x13), (.int .u64 x14)]), (.arr [(.int .i64 y16), (.int .u64 y17)])]
def law08_ViewMeets_c6 (a1 : Int) (b2 : Int) (n0 : Int) (i11 : Int) (x13 : Int) (x14 : Int) (y16 : Int) (y17 : Int) (Q : Bool → Prop) : Prop := Run Try.prog 0 (FinS Try.prog 0 Try.f6 (law08_ViewMeets_R Q)) [.ops (.op (POper.mk (some 53) (.callf 23 [(.tmp 51), (.tmp 52)]) none) none :: law08_ViewMeets_o42_5), .bend 1, .code law08_ViewMeets_w43, .lp [.mask [1, 2, 7, 8, 9, 10, 11], .gc] law08_ViewMeets_w22, .bend 0, .code law08_ViewMeets_w44] [.dead, (.int .u64 a1), (.int .u64 b2), .dead, .dead, .dead, .dead, (.int .i64 (addK .i64 2 (convK .i64 (remK n0 4)))), (.ptr 0 0), (.ptr 1 0), .dead, (.int .i64 i11), .dead, .dead, .dead, .dead, .dead, .dead, .dead, .dead, .dead, .dead, .dead, .dead, .dead, .dead, .dead, .dead, .dead, .dead, .dead, .dead, .dead, .dead, .dead, .dead, .dead, .dead, .dead, .dead, .dead, .dead, .dead, .dead, .dead, .dead, .dead, .dead, .dead, .dead, (.bool false), (.ptr 0 0), (.int .i64 i11), .dead, .dead, .dead, .dead, .dead, .dead, .dead, .dead, .dead, .dead, .dead, .dead, .dead, .dead, .dead, .dead, .dead, .dead, .dead, .dead, .dead, .dead, .dead, .dead, .dead, .dead, .dead, .dead, .dead, .dead, .dead, .dead, .dead, .dead, .dead, .dead, .dead] [(.arr [(.int .i64 x13), (.int .u64 x14)]), (.arr [(.int .i64 y16), (.int .u64 y17)])]
def law08_ViewMeets_c7 (a1 : Int) (b2 : Int) (n0 : Int) (i11 : Int) (x13 : Int) (x14 : Int) (y16 : Int) (y17 : Int) (Q : Bool → Prop) : Prop := Run Try.prog 0 (FinS Try.prog 0 Try.f6 (law08_ViewMeets_R Q)) [.ops (.op (POper.mk (some 57) (.callf 23 [(.tmp 55), (.tmp 56)]) none) none :: law08_ViewMeets_o42_9), .bend 1, .code law08_ViewMeets_w43, .lp [.mask [1, 2, 7, 8, 9, 10, 11], .gc] law08_ViewMeets_w22, .bend 0, .code law08_ViewMeets_w44] [.dead, (.int .u64 a1), (.int .u64 b2), .dead, .dead, .dead, .dead, (.int .i64 (addK .i64 2 (convK .i64 (remK n0 4)))), (.ptr 0 0), (.ptr 1 0), .dead, (.int .i64 i11), .dead, .dead, .dead, .dead, .dead, .dead, .dead, .dead, .dead, .dead, .dead, .dead, .dead, .dead, .dead, .dead, .dead, .dead, .dead, .dead, .dead, .dead, .dead, .dead, .dead, .dead, .dead, .dead, .dead, .dead, .dead, .dead, .dead, .dead, .dead, .dead, .dead, .dead, (.bool false), .dead, .dead, .dead, (.bool true), (.ptr 1 0), (.int .i64 i11), .dead, .dead, .dead, .dead, .dead, .dead, .dead, .dead, .dead, .dead, .dead, .dead, .dead, .dead, .dead, .dead, .dead, .dead, .dead, .dead, .dead, .dead, .dead, .dead, .dead, .dead, .dead, .dead, .dead, .dead, .dead, .dead, .dead] [(.arr [(.int .i64 x13), (.int .u64 x14)]), (.arr [(.int .i64 y16), (.int .u64 y17)])]
def law08_ViewMeets_c8 (n0 : Int) (common10 : Bool) (x6 : Int) (x7 : Int) (y8 : Int) (y9 : Int) (Q : Bool → Prop) : Prop := Run Try.prog 0 (FinS Try.prog 0 Try.f6 (law08_ViewMeets_R Q)) [.ops (.op (POper.mk (some 61) (.callf 24 [(.tmp 60)]) none) none :: law08_ViewMeets_o46_2), .code (.ann [.mask [7, 8, 69], .gc] (.cut law08_ViewMeets_w47)), .code (.ann [.mask [7, 8], .gc] (.cut law08_ViewMeets_w52))] [.dead, .dead, .dead, .dead, .dead, .dead, .dead, (.int .i64 (addK .i64 2 (convK .i64 (remK n0 4)))), (.ptr 0 0), (.ptr 1 0), (.bool common10), .dead, .dead, .dead, .dead, .dead, .dead, .dead, .dead, .dead, .dead, .dead, .dead, .dead, .dead, .dead, .dead, .dead, .dead, .dead, .dead, .dead, .dead, .dead, .dead, .dead, .dead, .dead, .dead, .dead, .dead, .dead, .dead, .dead, .dead, .dead, .dead, .dead, .dead, .dead, .dead, .dead, .dead, .dead, .dead, .dead, .dead, .dead, .dead, .dead, (.ptr 0 0), .dead, .dead, .dead, .dead, .dead, .dead, .dead, .dead, .dead, .dead, .dead, .dead, .dead, .dead, .dead, .dead, .dead, .dead, .dead, .dead, .dead, .dead, .dead, .dead, .dead, .dead, .dead, .dead, .dead] [(.arr [(.int .i64 x6), (.int .u64 x7)]), (.arr [(.int .i64 y8), (.int .u64 y9)])]
def law08_ViewMeets_c9 (n0 : Int) (common10 : Bool) (x6 : Int) (x7 : Int) (y8 : Int) (y9 : Int) (Q : Bool → Prop) : Prop := Run Try.prog 0 (FinS Try.prog 0 Try.f6 (law08_ViewMeets_R Q)) [.ops (.op (POper.mk (some 64) (.callf 24 [(.tmp 63)]) none) none :: law08_ViewMeets_o46_5), .code (.ann [.mask [7, 8, 69], .gc] (.cut law08_ViewMeets_w47)), .code (.ann [.mask [7, 8], .gc] (.cut law08_ViewMeets_w52))] [.dead, .dead, .dead, .dead, .dead, .dead, .dead, (.int .i64 (addK .i64 2 (convK .i64 (remK n0 4)))), (.ptr 0 0), .dead, (.bool common10), .dead, .dead, .dead, .dead, .dead, .dead, .dead, .dead, .dead, .dead, .dead, .dead, .dead, .dead, .dead, .dead, .dead, .dead, .dead, .dead, .dead, .dead, .dead, .dead, .dead, .dead, .dead, .dead, .dead, .dead, .dead, .dead, .dead, .dead, .dead, .dead, .dead, .dead, .dead, .dead, .dead, .dead, .dead, .dead, .dead, .dead, .dead, .dead, .dead, .dead, .dead, (.bool true), (.ptr 1 0), .dead, .dead, .dead, .dead, .dead, .dead, .dead, .dead, .dead, .dead, .dead, .dead, .dead, .dead, .dead, .dead, .dead, .dead, .dead, .dead, .dead, .dead, .dead, .dead, .dead, .dead] [(.arr [(.int .i64 x6), (.int .u64 x7)]), (.arr [(.int .i64 y8), (.int .u64 y9)])]
def law08_ViewMeets_k5 (n0 : Int) (x22 : Bool) (x6 : Int) (x7 : Int) (Q : Bool → Prop) : Prop := Run Try.prog 0 (FinS Try.prog 0 Try.f6 (law08_ViewMeets_R Q)) [.code law08_ViewMeets_w47, .code (.ann [.mask [7, 8], .gc] (.cut law08_ViewMeets_w52))] [.dead, .dead, .dead, .dead, .dead, .dead, .dead, (.int .i64 (addK .i64 2 (convK .i64 (remK n0 4)))), (.ptr 0 0), .dead, .dead, .dead, .dead, .dead, .dead, .dead, .dead, .dead, .dead, .dead, .dead, .dead, .dead, .dead, .dead, .dead, .dead, .dead, .dead, .dead, .dead, .dead, .dead, .dead, .dead, .dead, .dead, .dead, .dead, .dead, .dead, .dead, .dead, .dead, .dead, .dead, .dead, .dead, .dead, .dead, .dead, .dead, .dead, .dead, .dead, .dead, .dead, .dead, .dead, .dead, .dead, .dead, .dead, .dead, .dead, .dead, .dead, .dead, .dead, (.bool x22), .dead, .dead, .dead, .dead, .dead, .dead, .dead, .dead, .dead, .dead, .dead, .dead, .dead, .dead, .dead, .dead, .dead, .dead, .dead, .dead] [(.arr [(.int .i64 x6), (.int .u64 x7)])]
def law08_ViewMeets_k6 (n0 : Int) (x6 : Int) (x7 : Int) (Q : Bool → Prop) : Prop := Run Try.prog 0 (FinS Try.prog 0 Try.f6 (law08_ViewMeets_R Q)) [.code law08_ViewMeets_w52] [.dead, .dead, .dead, .dead, .dead, .dead, .dead, (.int .i64 (addK .i64 2 (convK .i64 (remK n0 4)))), (.ptr 0 0), .dead, .dead, .dead, .dead, .dead, .dead, .dead, .dead, .dead, .dead, .dead, .dead, .dead, .dead, .dead, .dead, .dead, .dead, .dead, .dead, .dead, .dead, .dead, .dead, .dead, .dead, .dead, .dead, .dead, .dead, .dead, .dead, .dead, .dead, .dead, .dead, .dead, .dead, .dead, .dead, .dead, .dead, .dead, .dead, .dead, .dead, .dead, .dead, .dead, .dead, .dead, .dead, .dead, .dead, .dead, .dead, .dead, .dead, .dead, .dead, .dead, .dead, .dead, .dead, .dead, .dead, .dead, .dead, .dead, .dead, .dead, .dead, .dead, .dead, .dead, .dead, .dead, .dead, .dead, .dead, .dead] [(.arr [(.int .i64 x6), (.int .u64 x7)])]
def law08_ViewMeets_c10 (n0 : Int) (x6 : Int) (x7 : Int) (Q : Bool → Prop) : Prop := Run Try.prog 0 (FinS Try.prog 0 Try.f6 (law08_ViewMeets_R Q)) [.ops (.op (POper.mk (some 72) (.callf 13 [(.tmp 71)]) none) none :: law08_ViewMeets_o53_3), .code .ret] [.dead, .dead, .dead, .dead, .dead, .dead, .dead, (.int .i64 (addK .i64 2 (convK .i64 (remK n0 4)))), (.ptr 0 0), .dead, .dead, .dead, .dead, .dead, .dead, .dead, .dead, .dead, .dead, .dead, .dead, .dead, .dead, .dead, .dead, .dead, .dead, .dead, .dead, .dead, .dead, .dead, .dead, .dead, .dead, .dead, .dead, .dead, .dead, .dead, .dead, .dead, .dead, .dead, .dead, .dead, .dead, .dead, .dead, .dead, .dead, .dead, .dead, .dead, .dead, .dead, .dead, .dead, .dead, .dead, .dead, .dead, .dead, .dead, .dead, .dead, .dead, .dead, .dead, .dead, (.int .i64 (addK .i64 2 (convK .i64 (remK n0 4)))), (.int .i64 (addK .i64 2 (convK .i64 (remK n0 4)))), .dead, .dead, .dead, .dead, .dead, .dead, .dead, .dead, .dead, .dead, .dead, .dead, .dead, .dead, .dead, .dead, .dead, .dead] [(.arr [(.int .i64 x6), (.int .u64 x7)])]
def law08_ViewMeets_c11 (n0 : Int) (r23 : Int) (x6 : Int) (x7 : Int) (Q : Bool → Prop) : Prop := Run Try.prog 0 (FinS Try.prog 0 Try.f6 (law08_ViewMeets_R Q)) [.ops (.op (POper.mk (some 75) (.callf 11 [(.tmp 74)]) none) none :: law08_ViewMeets_o53_6), .code .ret] [.dead, .dead, .dead, .dead, .dead, .dead, .dead, (.int .i64 (addK .i64 2 (convK .i64 (remK n0 4)))), (.ptr 0 0), .dead, .dead, .dead, .dead, .dead, .dead, .dead, .dead, .dead, .dead, .dead, .dead, .dead, .dead, .dead, .dead, .dead, .dead, .dead, .dead, .dead, .dead, .dead, .dead, .dead, .dead, .dead, .dead, .dead, .dead, .dead, .dead, .dead, .dead, .dead, .dead, .dead, .dead, .dead, .dead, .dead, .dead, .dead, .dead, .dead, .dead, .dead, .dead, .dead, .dead, .dead, .dead, .dead, .dead, .dead, .dead, .dead, .dead, .dead, .dead, .dead, .dead, .dead, .dead, (.int .i64 (subK .i64 (addK .i64 2 (convK .i64 (remK n0 4))) r23)), (.int .i64 (addK .i64 2 (convK .i64 (remK n0 4)))), .dead, .dead, .dead, .dead, .dead, .dead, .dead, .dead, .dead, .dead, .dead, .dead, .dead, .dead, .dead] [(.arr [(.int .i64 x6), (.int .u64 x7)])]
def law08_ViewMeets_c12 (n0 : Int) (x6 : Int) (x7 : Int) (Q : Bool → Prop) : Prop := Run Try.prog 0 (FinS Try.prog 0 Try.f6 (law08_ViewMeets_R Q)) [.ops (.op (POper.mk (some 79) (.callf 24 [(.tmp 78)]) none) none :: law08_ViewMeets_o53_10), .code .ret] [.dead, .dead, .dead, .dead, .dead, .dead, .dead, (.int .i64 (addK .i64 2 (convK .i64 (remK n0 4)))), (.ptr 0 0), .dead, .dead, .dead, .dead, .dead, .dead, .dead, .dead, .dead, .dead, .dead, .dead, .dead, .dead, .dead, .dead, .dead, .dead, .dead, .dead, .dead, .dead, .dead, .dead, .dead, .dead, .dead, .dead, .dead, .dead, .dead, .dead, .dead, .dead, .dead, .dead, .dead, .dead, .dead, .dead, .dead, .dead, .dead, .dead, .dead, .dead, .dead, .dead, .dead, .dead, .dead, .dead, .dead, .dead, .dead, .dead, .dead, .dead, .dead, .dead, .dead, .dead, .dead, .dead, .dead, .dead, .dead, .dead, (.bool true), (.ptr 0 0), .dead, .dead, .dead, .dead, .dead, .dead, .dead, .dead, .dead, .dead, .dead] [(.arr [(.int .i64 x6), (.int .u64 x7)])]
def law08_ViewMeets_c13 (n0 : Int) (r25 : Bool) (x6 : Int) (x7 : Int) (Q : Bool → Prop) : Prop := Run Try.prog 0 (FinS Try.prog 0 Try.f6 (law08_ViewMeets_R Q)) [.ops (.op (POper.mk (some 81) (.callf 25 [(.tmp 80)]) none) none :: law08_ViewMeets_o53_12), .code .ret] [.dead, .dead, .dead, .dead, .dead, .dead, .dead, (.int .i64 (addK .i64 2 (convK .i64 (remK n0 4)))), .dead, .dead, .dead, .dead, .dead, .dead, .dead, .dead, .dead, .dead, .dead, .dead, .dead, .dead, .dead, .dead, .dead, .dead, .dead, .dead, .dead, .dead, .dead, .dead, .dead, .dead, .dead, .dead, .dead, .dead, .dead, .dead, .dead, .dead, .dead, .dead, .dead, .dead, .dead, .dead, .dead, .dead, .dead, .dead, .dead, .dead, .dead, .dead, .dead, .dead, .dead, .dead, .dead, .dead, .dead, .dead, .dead, .dead, .dead, .dead, .dead, .dead, .dead, .dead, .dead, .dead, .dead, .dead, .dead, (.bool true), .dead, (.bool r25), (.ptr 0 0), .dead, .dead, .dead, .dead, .dead, .dead, .dead, .dead, .dead] [(.arr [(.int .i64 x6), (.int .u64 x7)])]
def law08_ViewMeets_c14 (r25 : Bool) (r26 : Int) (n0 : Int) (Q : Bool → Prop) : Prop := Run Try.prog 0 (FinS Try.prog 0 Try.f6 (law08_ViewMeets_R Q)) [.ops (.op (POper.mk (some 83) (.callf 11 [(.tmp 82)]) none) none :: law08_ViewMeets_o53_14), .code .ret] [.dead, .dead, .dead, .dead, .dead, .dead, .dead, .dead, .dead, .dead, .dead, .dead, .dead, .dead, .dead, .dead, .dead, .dead, .dead, .dead, .dead, .dead, .dead, .dead, .dead, .dead, .dead, .dead, .dead, .dead, .dead, .dead, .dead, .dead, .dead, .dead, .dead, .dead, .dead, .dead, .dead, .dead, .dead, .dead, .dead, .dead, .dead, .dead, .dead, .dead, .dead, .dead, .dead, .dead, .dead, .dead, .dead, .dead, .dead, .dead, .dead, .dead, .dead, .dead, .dead, .dead, .dead, .dead, .dead, .dead, .dead, .dead, .dead, .dead, .dead, .dead, .dead, (.bool true), .dead, (.bool r25), .dead, (.int .i64 r26), (.int .i64 (addK .i64 2 (convK .i64 (remK n0 4)))), .dead, .dead, .dead, .dead, .dead, .dead, .dead] []
def law08_ViewMeets_c15  (Q : Bool → Prop) : Prop := Run Try.prog 0 (FinS Try.prog 0 Try.f6 (law08_ViewMeets_R Q)) [.ops (.op (POper.mk (some 88) (.callf 17 []) none) none :: law08_ViewMeets_o53_19), .code .ret] [.dead, .dead, .dead, .dead, .dead, .dead, .dead, .dead, .dead, .dead, .dead, .dead, .dead, .dead, .dead, .dead, .dead, .dead, .dead, .dead, .dead, .dead, .dead, .dead, .dead, .dead, .dead, .dead, .dead, .dead, .dead, .dead, .dead, .dead, .dead, .dead, .dead, .dead, .dead, .dead, .dead, .dead, .dead, .dead, .dead, .dead, .dead, .dead, .dead, .dead, .dead, .dead, .dead, .dead, .dead, .dead, .dead, .dead, .dead, .dead, .dead, .dead, .dead, .dead, .dead, .dead, .dead, .dead, .dead, .dead, .dead, .dead, .dead, .dead, .dead, .dead, .dead, .dead, .dead, .dead, .dead, .dead, .dead, .dead, .dead, .dead, .dead, (.bool true), .dead, .dead] []
theorem law08_ViewMeets_step (n0 : Int) (a1 : Int) (b2 : Int) {Q : Bool → Prop} (h :
    ((4 : Int) ≠ 0) ∧
    law08_ViewMeets_c1 a1 b2 n0 Q) : law08_ViewMeets n0 a1 b2 Q :=
  adv_go 6000 mixed law08_ViewMeets_rr (fa := [.gc]) (by kernel_rfl) h
theorem law08_ViewMeets_c1_step_none (a1 : Int) (b2 : Int) (n0 : Int) {Q : Bool → Prop}  (hc : view_NewVotes (addK .i64 2 (convK .i64 (remK n0 4))) (fun x => x = none)) (h :
    law08_ViewMeets_c2 a1 b2 n0 Q) : law08_ViewMeets_c1 a1 b2 n0 Q :=
  run_callf (tout := (lendOut [] 0 (view_NewVotes_enc none) (view_NewVotes_obj none))) (call_typed [] (view_NewVotes_ok (addK .i64 2 (convK .i64 (remK n0 4))) none hc) (by kernel_rfl) (by kernel_rfl) (by kernel_rfl)) (adv_go 6000 mixed law08_ViewMeets_rr (fa := [.gc]) (by kernel_rfl) h)
theorem law08_ViewMeets_c1_step_some (a1 : Int) (b2 : Int) (n0 : Int) {Q : Bool → Prop} (r4 : eR3.T) (hc : view_NewVotes (addK .i64 2 (convK .i64 (remK n0 4))) (fun x => x = (some r4))) (h :
    law08_ViewMeets_c3 a1 b2 n0 r4 Q) : law08_ViewMeets_c1 a1 b2 n0 Q :=
  run_callf (tout := (lendOut [] 0 (view_NewVotes_enc (some r4)) (view_NewVotes_obj (some r4)))) (call_typed [] (view_NewVotes_ok (addK .i64 2 (convK .i64 (remK n0 4))) (some r4) hc) (by kernel_rfl) (by kernel_rfl) (by kernel_rfl)) (adv_go 6000 mixed law08_ViewMeets_rr (fa := [.gc]) (by kernel_rfl) h)
theorem law08_ViewMeets_c2_step_none (a1 : Int) (b2 : Int) (n0 : Int) {Q : Bool → Prop}  (hc : view_NewVotes (addK .i64 2 (convK .i64 (remK n0 4))) (fun x => x = none)) (h :
    law08_ViewMeets_ret Q false) : law08_ViewMeets_c2 a1 b2 n0 Q :=
  run_callf (tout := (lendOut [] 0 (view_NewVotes_enc none) (view_NewVotes_obj none))) (call_typed [] (view_NewVotes_ok (addK .i64 2 (convK .i64 (remK n0 4))) none hc) (by kernel_rfl) (by kernel_rfl) (by kernel_rfl)) (adv_go 6000 mixed law08_ViewMeets_rr (fa := [.gc]) (by kernel_rfl) h)
theorem law08_ViewMeets_c2_step_some (a1 : Int) (b2 : Int) (n0 : Int) {Q : Bool → Prop} (r3 : eR3.T) (hc : view_NewVotes (addK .i64 2 (convK .i64 (remK n0 4))) (fun x => x = (some r3))) (h :
    law08_ViewMeets_ret Q false) : law08_ViewMeets_c2 a1 b2 n0 Q :=
  run_callf (tout := (lendOut [] 0 (view_NewVotes_enc (some r3)) (view_NewVotes_obj (some r3)))) (call_typed [] (view_NewVotes_ok (addK .i64 2 (convK .i64 (remK n0 4))) (some r3) hc) (by kernel_rfl) (by kernel_rfl) (by kernel_rfl)) (adv_go 6000 mixed law08_ViewMeets_rr (fa := [.gc]) (by kernel_rfl) h)
theorem law08_ViewMeets_c3_step_none (a1 : Int) (b2 : Int) (n0 : Int) (r4 : eR3.T) {Q : Bool → Prop}  (hc : view_NewVotes (addK .i64 2 (convK .i64 (remK n0 4))) (fun x => x = none)) (h :
    law08_ViewMeets_ret Q false) : law08_ViewMeets_c3 a1 b2 n0 r4 Q :=
  run_callf (tout := (lendOut [] 1 (view_NewVotes_enc none) (view_NewVotes_obj none))) (call_typed [] (view_NewVotes_ok (addK .i64 2 (convK .i64 (remK n0 4))) none hc) (by kernel_rfl) (by kernel_rfl) (by kernel_rfl)) (adv_go 6000 mixed law08_ViewMeets_rr (fa := [.gc]) (by kernel_rfl) h)
theorem law08_ViewMeets_c3_step_some (a1 : Int) (b2 : Int) (n0 : Int) (r4 : eR3.T) {Q : Bool → Prop} (r5 : eR3.T) (hc : view_NewVotes (addK .i64 2 (convK .i64 (remK n0 4))) (fun x => x = (some r5))) (h :
    law08_ViewMeets_k1 a1 b2 n0 r4 r5 Q) : law08_ViewMeets_c3 a1 b2 n0 r4 Q :=
  run_callf (tout := (lendOut [] 1 (view_NewVotes_enc (some r5)) (view_NewVotes_obj (some r5)))) (call_typed [] (view_NewVotes_ok (addK .i64 2 (convK .i64 (remK n0 4))) (some r5) hc) (by kernel_rfl) (by kernel_rfl) (by kernel_rfl)) (adv_go 6000 mixed law08_ViewMeets_rr (fa := [.gc]) (by kernel_rfl) h)
theorem law08_ViewMeets_k1_step (a1 : Int) (b2 : Int) (n0 : Int) (r4 : eR3.T) (r5 : eR3.T) {Q : Bool → Prop} (h :
    law08_ViewMeets_l2 a1 b2 n0 false 1 r4.1 r4.2 r5.1 r5.2 Q) : law08_ViewMeets_k1 a1 b2 n0 r4 r5 Q :=
  adv_go 6000 mixed law08_ViewMeets_rr (fa := [.gc]) (by kernel_rfl) h
theorem law08_ViewMeets_l2_step (a1 : Int) (b2 : Int) (n0 : Int) (common10 : Bool) (i11 : Int) (x6 : Int) (x7 : Int) (y8 : Int) (y9 : Int) {Q : Bool → Prop} (h :
    Br (decide (i11 ≤ (addK .i64 2 (convK .i64 (remK n0 4)))))
      ((0 ≤ (convK .u64 i11)) ∧
      Br ((andK .u64 (shrK .u64 a1 (convK .u64 i11)) 1) == 1)
        (law08_ViewMeets_c4 a1 b2 n0 common10 i11 x6 x7 y8 y9 Q)
        (law08_ViewMeets_k3 a1 b2 n0 common10 i11 x6 x7 y8 y9 Q))
      (law08_ViewMeets_c8 n0 common10 x6 x7 y8 y9 Q)) : law08_ViewMeets_l2 a1 b2 n0 common10 i11 x6 x7 y8 y9 Q :=
  run_loop (adv_go 6000 mixed law08_ViewMeets_rr (fa := [.gc]) (by kernel_rfl) h)
theorem law08_ViewMeets_c4_step (a1 : Int) (b2 : Int) (n0 : Int) (common10 : Bool) (i11 : Int) (x6 : Int) (x7 : Int) (y8 : Int) (y9 : Int) {Q : Bool → Prop} (r12 : Bool × eR3.T) (hc : view_Votes_Add i11 (x6, x7) (fun x => x = r12)) (h :
    law08_ViewMeets_k3 a1 b2 n0 common10 i11 r12.2.1 r12.2.2 y8 y9 Q) : law08_ViewMeets_c4 a1 b2 n0 common10 i11 x6 x7 y8 y9 Q :=
  run_callf (tout := (lendOut [0] 2 (view_Votes_Add_enc r12) (view_Votes_Add_obj r12))) (call_typed [0] (view_Votes_Add_ok i11 (x6, x7) r12 hc) (by kernel_rfl) (by kernel_rfl) (by kernel_rfl)) (adv_go 6000 mixed law08_ViewMeets_rr (fa := [.gc]) (by kernel_rfl) h)
theorem law08_ViewMeets_k3_step (a1 : Int) (b2 : Int) (n0 : Int) (common10 : Bool) (i11 : Int) (x13 : Int) (x14 : Int) (y8 : Int) (y9 : Int) {Q : Bool → Prop} (h :
    (0 ≤ (convK .u64 i11)) ∧
    Br ((andK .u64 (shrK .u64 b2 (convK .u64 i11)) 1) == 1)
      (law08_ViewMeets_c5 a1 b2 n0 common10 i11 x13 x14 y8 y9 Q)
      (law08_ViewMeets_k4 a1 b2 n0 common10 i11 x13 x14 y8 y9 Q)) : law08_ViewMeets_k3 a1 b2 n0 common10 i11 x13 x14 y8 y9 Q :=
  adv_go 6000 mixed law08_ViewMeets_rr (fa := [.gc]) (by kernel_rfl) h
theorem law08_ViewMeets_c5_step (a1 : Int) (b2 : Int) (n0 : Int) (common10 : Bool) (i11 : Int) (x13 : Int) (x14 : Int) (y8 : Int) (y9 : Int) {Q : Bool → Prop} (r15 : Bool × eR3.T) (hc : view_Votes_Add i11 (y8, y9) (fun x => x = r15)) (h :
    law08_ViewMeets_k4 a1 b2 n0 common10 i11 x13 x14 r15.2.1 r15.2.2 Q) : law08_ViewMeets_c5 a1 b2 n0 common10 i11 x13 x14 y8 y9 Q :=
  run_callf (tout := (lendOut [1] 2 (view_Votes_Add_enc r15) (view_Votes_Add_obj r15))) (call_typed [1] (view_Votes_Add_ok i11 (y8, y9) r15 hc) (by kernel_rfl) (by kernel_rfl) (by kernel_rfl)) (adv_go 6000 mixed law08_ViewMeets_rr (fa := [.gc]) (by kernel_rfl) h)
theorem law08_ViewMeets_k4_step (a1 : Int) (b2 : Int) (n0 : Int) (common10 : Bool) (i11 : Int) (x13 : Int) (x14 : Int) (y16 : Int) (y17 : Int) {Q : Bool → Prop} (h :
    Br (common10)
      (law08_ViewMeets_l2 a1 b2 n0 true (addK .i64 i11 1) x13 x14 y16 y17 Q)
      (law08_ViewMeets_c6 a1 b2 n0 i11 x13 x14 y16 y17 Q)) : law08_ViewMeets_k4 a1 b2 n0 common10 i11 x13 x14 y16 y17 Q :=
  adv_go 6000 mixed law08_ViewMeets_rr (fa := [.gc]) (by kernel_rfl) h
theorem law08_ViewMeets_c6_step (a1 : Int) (b2 : Int) (n0 : Int) (i11 : Int) (x13 : Int) (x14 : Int) (y16 : Int) (y17 : Int) {Q : Bool → Prop} (r18 : Bool) (hc : view_Votes_Has (x13, x14) i11 (fun x => x = r18)) (h :
    Br (r18)
      (law08_ViewMeets_c7 a1 b2 n0 i11 x13 x14 y16 y17 Q)
      (law08_ViewMeets_l2 a1 b2 n0 false (addK .i64 i11 1) x13 x14 y16 y17 Q)) : law08_ViewMeets_c6 a1 b2 n0 i11 x13 x14 y16 y17 Q :=
  run_callf (tout := (TOut.ro 0 (lendOut [] 2 (view_Votes_Has_enc r18) (view_Votes_Has_obj r18)))) (call_ro 0 eR3 (x13, x14) (by kernel_rfl) (call_typed [] (view_Votes_Has_ok (x13, x14) i11 r18 hc) (by kernel_rfl) (by kernel_rfl) (by kernel_rfl)) (by kernel_rfl) (by kernel_rfl) (by kernel_rfl)) (adv_go 6000 mixed law08_ViewMeets_rr (fa := [.gc]) (by kernel_rfl) h)
theorem law08_ViewMeets_c7_step (a1 : Int) (b2 : Int) (n0 : Int) (i11 : Int) (x13 : Int) (x14 : Int) (y16 : Int) (y17 : Int) {Q : Bool → Prop} (r19 : Bool) (hc : view_Votes_Has (y16, y17) i11 (fun x => x = r19)) (h :
    law08_ViewMeets_l2 a1 b2 n0 r19 (addK .i64 i11 1) x13 x14 y16 y17 Q) : law08_ViewMeets_c7 a1 b2 n0 i11 x13 x14 y16 y17 Q :=
  run_callf (tout := (TOut.ro 1 (lendOut [] 2 (view_Votes_Has_enc r19) (view_Votes_Has_obj r19)))) (call_ro 1 eR3 (y16, y17) (by kernel_rfl) (call_typed [] (view_Votes_Has_ok (y16, y17) i11 r19 hc) (by kernel_rfl) (by kernel_rfl) (by kernel_rfl)) (by kernel_rfl) (by kernel_rfl) (by kernel_rfl)) (adv_go 6000 mixed law08_ViewMeets_rr (fa := [.gc]) (by kernel_rfl) h)
theorem law08_ViewMeets_c8_step (n0 : Int) (common10 : Bool) (x6 : Int) (x7 : Int) (y8 : Int) (y9 : Int) {Q : Bool → Prop} (r20 : Bool) (hc : view_Votes_Enough (x6, x7) (fun x => x = r20)) (h :
    Br (r20)
      (law08_ViewMeets_c9 n0 common10 x6 x7 y8 y9 Q)
      (law08_ViewMeets_k5 n0 false x6 x7 Q)) : law08_ViewMeets_c8 n0 common10 x6 x7 y8 y9 Q :=
  run_callf (tout := (TOut.ro 0 (lendOut [] 2 (view_Votes_Enough_enc r20) (view_Votes_Enough_obj r20)))) (call_ro 0 eR3 (x6, x7) (by kernel_rfl) (call_typed [] (view_Votes_Enough_ok (x6, x7) r20 hc) (by kernel_rfl) (by kernel_rfl) (by kernel_rfl)) (by kernel_rfl) (by kernel_rfl) (by kernel_rfl)) (adv_go 6000 mixed law08_ViewMeets_rr (fa := [.gc]) (by kernel_rfl) h)
theorem law08_ViewMeets_c9_step (n0 : Int) (common10 : Bool) (x6 : Int) (x7 : Int) (y8 : Int) (y9 : Int) {Q : Bool → Prop} (r21 : Bool) (hc : view_Votes_Enough (y8, y9) (fun x => x = r21)) (h :
    Br (r21)
      (law08_ViewMeets_k5 n0 (!common10) x6 x7 Q)
      (law08_ViewMeets_k5 n0 false x6 x7 Q)) : law08_ViewMeets_c9 n0 common10 x6 x7 y8 y9 Q :=
  run_callf (tout := (TOut.ro 1 (lendOut [] 2 (view_Votes_Enough_enc r21) (view_Votes_Enough_obj r21)))) (call_ro 1 eR3 (y8, y9) (by kernel_rfl) (call_typed [] (view_Votes_Enough_ok (y8, y9) r21 hc) (by kernel_rfl) (by kernel_rfl) (by kernel_rfl)) (by kernel_rfl) (by kernel_rfl) (by kernel_rfl)) (adv_go 6000 mixed law08_ViewMeets_rr (fa := [.gc]) (by kernel_rfl) h)
theorem law08_ViewMeets_k5_step (n0 : Int) (x22 : Bool) (x6 : Int) (x7 : Int) {Q : Bool → Prop} (h :
    Br (x22)
      (law08_ViewMeets_ret Q false)
      (law08_ViewMeets_k6 n0 x6 x7 Q)) : law08_ViewMeets_k5 n0 x22 x6 x7 Q :=
  adv_go 6000 mixed law08_ViewMeets_rr (fa := [.gc]) (by kernel_rfl) h
theorem law08_ViewMeets_k6_step (n0 : Int) (x6 : Int) (x7 : Int) {Q : Bool → Prop} (h :
    law08_ViewMeets_c10 n0 x6 x7 Q) : law08_ViewMeets_k6 n0 x6 x7 Q :=
  adv_go 6000 mixed law08_ViewMeets_rr (fa := [.gc]) (by kernel_rfl) h
theorem law08_ViewMeets_c10_step (n0 : Int) (x6 : Int) (x7 : Int) {Q : Bool → Prop} (r23 : Int) (hc : view_Faults (addK .i64 2 (convK .i64 (remK n0 4))) (fun x => x = r23)) (h :
    law08_ViewMeets_c11 n0 r23 x6 x7 Q) : law08_ViewMeets_c10 n0 x6 x7 Q :=
  run_callf (tout := (lendOut [] 1 (view_Faults_enc r23) (view_Faults_obj r23))) (call_typed [] (view_Faults_ok (addK .i64 2 (convK .i64 (remK n0 4))) r23 hc) (by kernel_rfl) (by kernel_rfl) (by kernel_rfl)) (adv_go 6000 mixed law08_ViewMeets_rr (fa := [.gc]) (by kernel_rfl) h)
theorem law08_ViewMeets_c11_step (n0 : Int) (r23 : Int) (x6 : Int) (x7 : Int) {Q : Bool → Prop} (r24 : Int) (hc : view_Quorum (addK .i64 2 (convK .i64 (remK n0 4))) (fun x => x = r24)) (h :
    Br (decide ((subK .i64 (addK .i64 2 (convK .i64 (remK n0 4))) r23) ≥ r24))
      (law08_ViewMeets_c12 n0 x6 x7 Q)
      (law08_ViewMeets_ret Q false)) : law08_ViewMeets_c11 n0 r23 x6 x7 Q :=
  run_callf (tout := (lendOut [] 1 (view_Quorum_enc r24) (view_Quorum_obj r24))) (call_typed [] (view_Quorum_ok (addK .i64 2 (convK .i64 (remK n0 4))) r24 hc) (by kernel_rfl) (by kernel_rfl) (by kernel_rfl)) (adv_go 6000 mixed law08_ViewMeets_rr (fa := [.gc]) (by kernel_rfl) h)
theorem law08_ViewMeets_c12_step (n0 : Int) (x6 : Int) (x7 : Int) {Q : Bool → Prop} (r25 : Bool) (hc : view_Votes_Enough (x6, x7) (fun x => x = r25)) (h :
    law08_ViewMeets_c13 n0 r25 x6 x7 Q) : law08_ViewMeets_c12 n0 x6 x7 Q :=
  run_callf (tout := (TOut.ro 0 (lendOut [] 1 (view_Votes_Enough_enc r25) (view_Votes_Enough_obj r25)))) (call_ro 0 eR3 (x6, x7) (by kernel_rfl) (call_typed [] (view_Votes_Enough_ok (x6, x7) r25 hc) (by kernel_rfl) (by kernel_rfl) (by kernel_rfl)) (by kernel_rfl) (by kernel_rfl) (by kernel_rfl)) (adv_go 6000 mixed law08_ViewMeets_rr (fa := [.gc]) (by kernel_rfl) h)
theorem law08_ViewMeets_c13_step (n0 : Int) (r25 : Bool) (x6 : Int) (x7 : Int) {Q : Bool → Prop} (r26 : Int) (hc : view_Votes_Count (x6, x7) (fun x => x = r26)) (h :
    law08_ViewMeets_c14 r25 r26 n0 Q) : law08_ViewMeets_c13 n0 r25 x6 x7 Q :=
  run_callf (tout := (TOut.ro 0 (lendOut [] 1 (view_Votes_Count_enc r26) (view_Votes_Count_obj r26)))) (call_ro 0 eR3 (x6, x7) (by kernel_rfl) (call_typed [] (view_Votes_Count_ok (x6, x7) r26 hc) (by kernel_rfl) (by kernel_rfl) (by kernel_rfl)) (by kernel_rfl) (by kernel_rfl) (by kernel_rfl)) (adv_go 6000 mixed law08_ViewMeets_rr (fa := [.gc]) (by kernel_rfl) h)
theorem law08_ViewMeets_c14_step (r25 : Bool) (r26 : Int) (n0 : Int) {Q : Bool → Prop} (r27 : Int) (hc : view_Quorum (addK .i64 2 (convK .i64 (remK n0 4))) (fun x => x = r27)) (h :
    Br (r25 == (decide (r26 ≥ r27)))
      (law08_ViewMeets_c15 Q)
      (law08_ViewMeets_ret Q false)) : law08_ViewMeets_c14 r25 r26 n0 Q :=
  run_callf (tout := (lendOut [] 0 (view_Quorum_enc r27) (view_Quorum_obj r27))) (call_typed [] (view_Quorum_ok (addK .i64 2 (convK .i64 (remK n0 4))) r27 hc) (by kernel_rfl) (by kernel_rfl) (by kernel_rfl)) (adv_go 6000 mixed law08_ViewMeets_rr (fa := [.gc]) (by kernel_rfl) h)
theorem law08_ViewMeets_c15_step  {Q : Bool → Prop} (r28 : Bool) (hc : law08_lives (fun x => x = r28)) (h :
    law08_ViewMeets_ret Q r28) : law08_ViewMeets_c15 Q :=
  run_callf (tout := (lendOut [] 0 (law08_lives_enc r28) (law08_lives_obj r28))) (call_typed [] (law08_lives_ok r28 hc) (by kernel_rfl) (by kernel_rfl) (by kernel_rfl)) (adv_go 6000 mixed law08_ViewMeets_rr (fa := [.gc]) (by kernel_rfl) h)
theorem law08_ViewMeets_act (n0 : Int) (a1 : Int) (b2 : Int) {Q : Bool → Prop} (h : law08_ViewMeets n0 a1 b2 Q) : ACT Try.prog 6 [(.int .u64 n0), (.int .u64 a1), (.int .u64 b2)] [] (law08_ViewMeets_R Q) :=
  act_go Try.func6 (by rfl) (by kernel_rfl) law08_ViewMeets_rc (n0 := 0) rfl (by kernel_rfl) h
theorem law08_ViewMeets_ok (n0 : Int) (a1 : Int) (b2 : Int) (r : Bool) (h : law08_ViewMeets n0 a1 b2 (fun x => x = r)) : ACT Try.prog 6 [(.int .u64 n0), (.int .u64 a1), (.int .u64 b2)] [] (fun tv tL => tv = law08_ViewMeets_enc r ∧ tL = law08_ViewMeets_obj r) := act_det (law08_ViewMeets_act n0 a1 b2 h)

/-! drover/droverref08.Is -/
def ref08_Is_enc  : Bool → TV := fun r => (.bool r)
def ref08_Is_obj  : Bool → List TO := fun r => []
def ref08_Is_R  (Q : Bool → Prop) : TV → List TO → Prop := RetR (ref08_Is_enc) (ref08_Is_obj) Q
def ref08_Is_ret  (Q : Bool → Prop) (r : Bool) : Prop := ref08_Is_R Q (ref08_Is_enc r) (ref08_Is_obj r)
theorem ref08_Is_ret.intro  {Q : Bool → Prop} {r : Bool} (h : Q r) : ref08_Is_ret Q r := RetR.intro h
def ref08_Is_o2_0 : List WOp := .op (POper.mk (some 2) (.move (.const (.bool false))) none) none :: []
def ref08_Is_w2 : WC := (.region ref08_Is_o2_0)
def ref08_Is_o4_0 : List WOp := .op (POper.mk (some 3) (.move (.tmp 0)) none) none :: .op (POper.mk (some 4) (.bin .geq (.tmp 3) (.const (.int .i64 2))) none) none :: .op (POper.mk (some 5) (.move (.tmp 4)) none) none :: .op (POper.mk (some 6) (.move (.tmp 0)) (some (5, true))) none :: .op (POper.mk (some 7) (.bin .leq (.tmp 6) (.const (.int .i64 5))) (some (5, true))) none :: .op (POper.mk (some 8) (.pick (.tmp 5) (.tmp 7) (.const (.bool false))) none) none :: .op (POper.mk (some 2) (.move (.tmp 8)) none) none :: []
def ref08_Is_w4 : WC := (.region ref08_Is_o4_0)
def ref08_Is_w3 : WC := (.seq ref08_Is_w4 .ret)
def ref08_Is_w1 : WC := (.seq ref08_Is_w2 ref08_Is_w3)
theorem ref08_Is_rc : resolveC Try.prog [] (Try.f34.body.getD .skip) = some (WC.er ref08_Is_w1) := by kernel_rfl
theorem ref08_Is_rr : resolveR Try.prog Try.f34.results.toList = some [(.move (.tmp 2))] := by kernel_rfl
def ref08_Is (n0 : Int) (Q : Bool → Prop) : Prop := Run Try.prog 0 (FinS Try.prog 0 Try.f34 (ref08_Is_R Q)) [.code ref08_Is_w1] [(.int .i64 n0), .und, .und, .und, .und, .und, .und, .und, .und] []
theorem ref08_Is_step (n0 : Int) {Q : Bool → Prop} (h :
    Br (decide (n0 ≥ 2))
      (ref08_Is_ret Q (decide (n0 ≤ 5)))
      (ref08_Is_ret Q false)) : ref08_Is n0 Q :=
  adv_go 6000 mixed ref08_Is_rr (fa := [.gc]) (by kernel_rfl) h
theorem ref08_Is_act (n0 : Int) {Q : Bool → Prop} (h : ref08_Is n0 Q) : ACT Try.prog 34 [(.int .i64 n0)] [] (ref08_Is_R Q) :=
  act_go Try.func34 (by rfl) (by kernel_rfl) ref08_Is_rc (n0 := 0) rfl (by kernel_rfl) h
theorem ref08_Is_ok (n0 : Int) (r : Bool) (h : ref08_Is n0 (fun x => x = r)) : ACT Try.prog 34 [(.int .i64 n0)] [] (fun tv tL => tv = ref08_Is_enc r ∧ tL = ref08_Is_obj r) := act_det (ref08_Is_act n0 h)

/-! drover/droverref08.NewVotes -/
def ref08_NewVotes_enc  : Option eR4.T → TV := fun r => match r with | none => .nilp | some r => (.ptr 0 0)
def ref08_NewVotes_obj  : Option eR4.T → List TO := fun r => match r with | none => [] | some r => [(.arr [(.int .i64 r.1), (.sl eI64 r.2)])]
def ref08_NewVotes_R  (Q : Option eR4.T → Prop) : TV → List TO → Prop := RetR (ref08_NewVotes_enc) (ref08_NewVotes_obj) Q
def ref08_NewVotes_ret  (Q : Option eR4.T → Prop) (r : Option eR4.T) : Prop := ref08_NewVotes_R Q (ref08_NewVotes_enc r) (ref08_NewVotes_obj r)
theorem ref08_NewVotes_ret.intro  {Q : Option eR4.T → Prop} {r : Option eR4.T} (h : Q r) : ref08_NewVotes_ret Q r := RetR.intro h
def ref08_NewVotes_o2_0 : List WOp := .op (POper.mk (some 2) (.move (.const (.pointer .none))) none) none :: []
def ref08_NewVotes_w2 : WC := (.region ref08_NewVotes_o2_0)
def ref08_NewVotes_o5_2 : List WOp := .op (POper.mk (some 5) (.un .not (.tmp 4)) none) none :: []
def ref08_NewVotes_o5_0 : List WOp := .op (POper.mk (some 3) (.move (.tmp 0)) none) none :: .ann [.mask [0, 3], .gc] :: .op (POper.mk (some 4) (.callf 34 [(.tmp 3)]) none) none :: ref08_NewVotes_o5_2
def ref08_NewVotes_w5 : WC := (.region ref08_NewVotes_o5_0)
def ref08_NewVotes_o8_0 : List WOp := .op (POper.mk (some 2) (.move (.const (.pointer .none))) none) none :: []
def ref08_NewVotes_w8 : WC := (.region ref08_NewVotes_o8_0)
def ref08_NewVotes_w7 : WC := (.seq ref08_NewVotes_w8 .ret)
def ref08_NewVotes_w6 : WC := (.cond (.tmp 5) ref08_NewVotes_w7 .skip)
def ref08_NewVotes_w4 : WC := (.seq ref08_NewVotes_w5 ref08_NewVotes_w6)
def ref08_NewVotes_o12_0 : List WOp := .op (POper.mk (some 6) (.move (.tmp 0)) none) none :: .op (POper.mk (some 7) (.build [(.d (.int .i64 0)), .nilsl] [(0, (1, (.tmp 6)))]) none) none :: .op (POper.mk (some 8) (.box 2 (.tmp 7)) none) none :: .op (POper.mk (some 2) (.move (.tmp 8)) none) none :: []
def ref08_NewVotes_w12 : WC := (.region ref08_NewVotes_o12_0)
def ref08_NewVotes_w11 : WC := (.seq ref08_NewVotes_w12 .ret)
def ref08_NewVotes_w3 : WC := (.seq ref08_NewVotes_w4 ref08_NewVotes_w11)
def ref08_NewVotes_w1 : WC := (.seq ref08_NewVotes_w2 ref08_NewVotes_w3)
theorem ref08_NewVotes_rc : resolveC Try.prog [] (Try.f28.body.getD .skip) = some (WC.er ref08_NewVotes_w1) := by kernel_rfl
theorem ref08_NewVotes_rr : resolveR Try.prog Try.f28.results.toList = some [(.move (.tmp 2))] := by kernel_rfl
def ref08_NewVotes (n0 : Int) (Q : Option eR4.T → Prop) : Prop := Run Try.prog 0 (FinS Try.prog 0 Try.f28 (ref08_NewVotes_R Q)) [.code ref08_NewVotes_w1] [(.int .i64 n0), .und, .und, .und, .und, .und, .und, .und, .und] []
def ref08_NewVotes_c1 (n0 : Int) (Q : Option eR4.T → Prop) : Prop := Run Try.prog 0 (FinS Try.prog 0 Try.f28 (ref08_NewVotes_R Q)) [.ops (.op (POper.mk (some 4) (.callf 34 [(.tmp 3)]) none) none :: ref08_NewVotes_o5_2), .code ref08_NewVotes_w6, .code ref08_NewVotes_w11] [(.int .i64 n0), .dead, .dead, (.int .i64 n0), .dead, .dead, .dead, .dead, .dead] []
theorem ref08_NewVotes_step (n0 : Int) {Q : Option eR4.T → Prop} (h :
    ref08_NewVotes_c1 n0 Q) : ref08_NewVotes n0 Q :=
  adv_go 6000 mixed ref08_NewVotes_rr (fa := [.fit (.o 0 1) eI64, .gc]) (by kernel_rfl) h
theorem ref08_NewVotes_c1_step (n0 : Int) {Q : Option eR4.T → Prop} (r1 : Bool) (hc : ref08_Is n0 (fun x => x = r1)) (h :
    Br (!r1)
      (ref08_NewVotes_ret Q none)
      (ref08_NewVotes_ret Q (some (n0, [])))) : ref08_NewVotes_c1 n0 Q :=
  run_callf (tout := (lendOut [] 0 (ref08_Is_enc r1) (ref08_Is_obj r1))) (call_typed [] (ref08_Is_ok n0 r1 hc) (by kernel_rfl) (by kernel_rfl) (by kernel_rfl)) (adv_go 6000 mixed ref08_NewVotes_rr (fa := [.fit (.o 0 1) eI64, .gc]) (by kernel_rfl) h)
theorem ref08_NewVotes_act (n0 : Int) {Q : Option eR4.T → Prop} (h : ref08_NewVotes n0 Q) : ACT Try.prog 28 [(.int .i64 n0)] [] (ref08_NewVotes_R Q) :=
  act_go Try.func28 (by rfl) (by kernel_rfl) ref08_NewVotes_rc (n0 := 0) rfl (by kernel_rfl) h
theorem ref08_NewVotes_ok (n0 : Int) (r : Option eR4.T) (h : ref08_NewVotes n0 (fun x => x = r)) : ACT Try.prog 28 [(.int .i64 n0)] [] (fun tv tL => tv = ref08_NewVotes_enc r ∧ tL = ref08_NewVotes_obj r) := act_det (ref08_NewVotes_act n0 h)

/-! (*drover/view.Votes).Clear -/
def view_Votes_Clear_enc  : eR3.T → TV := fun r => (.tup [])
def view_Votes_Clear_obj  : eR3.T → List TO := fun r => [(.arr [(.int .i64 r.1), (.int .u64 r.2)])]
def view_Votes_Clear_R  (Q : eR3.T → Prop) : TV → List TO → Prop := RetR (view_Votes_Clear_enc) (view_Votes_Clear_obj) Q
def view_Votes_Clear_ret  (Q : eR3.T → Prop) (r : eR3.T) : Prop := view_Votes_Clear_R Q (view_Votes_Clear_enc r) (view_Votes_Clear_obj r)
theorem view_Votes_Clear_ret.intro  {Q : eR3.T → Prop} {r : eR3.T} (h : Q r) : view_Votes_Clear_ret Q r := RetR.intro h
def view_Votes_Clear_o2_0 : List WOp := .op (POper.mk (some 2) (.move (.tmp 0)) none) none :: .op (POper.mk (some 3) (.isnil 0 true (.tmp 2)) none) none :: []
def view_Votes_Clear_w2 : WC := (.region view_Votes_Clear_o2_0)
def view_Votes_Clear_o4_0 : List WOp := .op (POper.mk (some 4) (.move (.tmp 0)) none) none :: .op (POper.mk (some 5) (.nilc (.tmp 4)) none) none :: .op (POper.mk (some 6) (.faddr 1 (.tmp 5)) none) none :: .op (POper.mk none (.store 1 (.tmp 6) (.const (.int .u64 0))) none) none :: []
def view_Votes_Clear_w4 : WC := (.region view_Votes_Clear_o4_0)
def view_Votes_Clear_w3 : WC := (.cond (.tmp 3) view_Votes_Clear_w4 .skip)
def view_Votes_Clear_w1 : WC := (.seq view_Votes_Clear_w2 view_Votes_Clear_w3)
theorem view_Votes_Clear_rc : resolveC Try.prog [] (Try.f26.body.getD .skip) = some (WC.er view_Votes_Clear_w1) := by kernel_rfl
theorem view_Votes_Clear_rr : resolveR Try.prog Try.f26.results.toList = some [] := by kernel_rfl
def view_Votes_Clear (v0 : eR3.T) (Q : eR3.T → Prop) : Prop := Run Try.prog 1 (FinS Try.prog 1 Try.f26 (view_Votes_Clear_R Q)) [.code view_Votes_Clear_w1] [(.ptr 0 0), .und, .und, .und, .und, .und, .und] [(.arr [(.int .i64 v0.1), (.int .u64 v0.2)])]
theorem view_Votes_Clear_step (v0 : eR3.T) {Q : eR3.T → Prop} (h :
    view_Votes_Clear_ret Q (v0.1, 0)) : view_Votes_Clear v0 Q :=
  adv_go 6000 mixed view_Votes_Clear_rr (fa := [.gc]) (by kernel_rfl) h
theorem view_Votes_Clear_act (v0 : eR3.T) {Q : eR3.T → Prop} (h : view_Votes_Clear v0 Q) : ACT Try.prog 26 [(.ptr 0 0)] [(.arr [(.int .i64 v0.1), (.int .u64 v0.2)])] (view_Votes_Clear_R Q) :=
  act_go Try.func26 (by rfl) (by kernel_rfl) view_Votes_Clear_rc (n0 := 1) rfl (by kernel_rfl) h
theorem view_Votes_Clear_ok (v0 : eR3.T) (r : eR3.T) (h : view_Votes_Clear v0 (fun x => x = r)) : ACT Try.prog 26 [(.ptr 0 0)] [(.arr [(.int .i64 v0.1), (.int .u64 v0.2)])] (fun tv tL => tv = view_Votes_Clear_enc r ∧ tL = view_Votes_Clear_obj r) := act_det (view_Votes_Clear_act v0 h)


end Go.Proofs.Ytpfdldcejeilnaa
