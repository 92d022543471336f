-- PRINTED BY print.sh 35421559b90ae4d0a3588c463048766b98c2df88dd9212a6774a882060cdf62d: not written by this session
import Derived.Test.YtpfdldcejeilnaaPViewTurnsx0
namespace Go.Proofs.Ytpfdldcejeilnaa.PViewTurns
open Go.RowKit Go.Proofs.YtpfdldcejeilnaaW.PrintWords Go.Proofs.YtpfdldcejeilnaaW.PrintLast Go.Proofs.YtpfdldcejeilnaaW.PrintMore
attribute [local go_sem] max2_int min2_int max_two min_two max_three min_three max_four min_four   -- for this text's walks alone
set_option linter.unusedVariables false
set_option linter.unusedSimpArgs false

/-! ### view_nodes: function 33 -/
def view_nodes.f (a0 : Int) : Option (Bool) := if a0 ≥ 2 then (some (decide (a0 ≤ 5))) else (some false)
set_option maxHeartbeats 8000000 in
set_option maxRecDepth 100000 in
theorem view_nodes.calls (a0 : Int) (r : Bool) (w : World) (h : view_nodes.f a0 = some r) :
    Calls Try.prog 33 #[.int .i64 a0] w fun e w' => e = .returned (.bool r) ∧ Drawn0 w w' := by
  have H : (if a0 ≥ 2 then (some (decide (a0 ≤ 5))) else (some false)) = some r := h
  clear h
  by_cases c2 : a0 ≥ 2
  · rw [if_pos c2] at H
    have c2b0 : decide (2 ≤ a0) = true := decide_eq_true c2
    clear c2
    obtain rfl := Option.some.inj H
    go_enter Try.func33, Try.ntmps33
    go_wp2
    go_ret
    exact ⟨by first | rfl | (simp; done) | (simp [*]; done), by repeat (first | exact Drawn0.refl _ | apply Drawn0.step)⟩
  · rw [if_neg c2] at H
    have c2b0 : decide (2 ≤ a0) = false := decide_eq_false c2
    clear c2
    obtain rfl := Option.some.inj H
    go_enter Try.func33, Try.ntmps33
    go_wp2
    go_ret
    exact ⟨by first | rfl | (simp; done) | (simp [*]; done), by repeat (first | exact Drawn0.refl _ | apply Drawn0.step)⟩

/-! ### view_Leader: function 9 -/
def view_Leader.f (a0 : Int) (a1 : Int) : Option (Int) := if a0 < 0 then (some 0) else ((view_nodes.f a1).bind fun t101 => (if t101 = true then (if a1 = 0 then (none) else (some (wrap64 (1 + (Int.tmod a0 a1))))) else (some 0)))
set_option maxHeartbeats 8000000 in
set_option maxRecDepth 100000 in
theorem view_Leader.calls (a0 : Int) (a1 : Int) (r : Int) (w : World) (h : view_Leader.f a0 a1 = some r) :
    Calls Try.prog 9 #[.int .i64 a0, .int .i64 a1] w fun e w' => e = .returned (.int .i64 r) ∧ Drawn0 w w' := by
  have H : (if a0 < 0 then (some 0) else ((view_nodes.f a1).bind fun t101 => (if t101 = true then (if a1 = 0 then (none) else (some (wrap64 (1 + (Int.tmod a0 a1))))) else (some 0)))) = some r := h
  clear h
  by_cases c3 : a0 < 0
  · rw [if_pos c3] at H
    have c3b0 : decide (a0 < 0) = true := decide_eq_true c3
    clear c3
    obtain rfl := Option.some.inj H
    go_enter Try.func9, Try.ntmps9
    go_wp2
    go_ret
    exact ⟨by first | rfl | (simp; done) | (simp [*]; done), by repeat (first | exact Drawn0.refl _ | apply Drawn0.step)⟩
  · rw [if_neg c3] at H
    have c3b0 : decide (a0 < 0) = false := decide_eq_false c3
    clear c3
    replace H := Option.bind_eq_some_iff.mp H
    obtain ⟨t101, A40, H⟩ := H
    replace H : (if t101 = true then (if a1 = 0 then (none) else (some (wrap64 (1 + (Int.tmod a0 a1))))) else (some 0)) = some r := H
    have A4 := Aside0.mk A40
    clear A40
    by_cases c5 : t101 = true
    · subst c5
      have H1 : (if a1 = 0 then (none) else (some (wrap64 (1 + (Int.tmod a0 a1))))) = some r := by rw [if_pos rfl] at H; exact H
      clear H
      have H := H1
      clear H1
      by_cases c6 : a1 = 0
      · rw [if_pos c6] at H
        exact absurd H (by simp)
      · rw [if_neg c6] at H
        have c6b0 : (a1 == 0) = false := beq_eq_false_iff_ne.mpr c6
        have c6b1 : (a1 != 0) = true := bne_iff_ne.mpr c6
        obtain rfl := Option.some.inj H
        go_enter Try.func9, Try.ntmps9
        go_wp2_with (first | (go_at_call 33; (with_reducible refine (view_nodes.calls a1 true _ A4.out).mono ?_); rintro e w' ⟨rfl, ⟨nd, rfl⟩⟩))
        go_ret
        exact ⟨by first | rfl | (simp; done) | (simp [*]; done), by repeat (first | exact Drawn0.refl _ | apply Drawn0.step)⟩
    · replace c5 := Bool.eq_false_iff.mpr c5
      subst c5
      have H1 : (some 0) = some r := by rw [if_neg (show ¬ (false = true) by decide)] at H; exact H
      clear H
      have H := H1
      clear H1
      obtain rfl := Option.some.inj H
      go_enter Try.func9, Try.ntmps9
      go_wp2_with (first | (go_at_call 33; (with_reducible refine (view_nodes.calls a1 false _ A4.out).mono ?_); rintro e w' ⟨rfl, ⟨nd, rfl⟩⟩))
      go_ret
      exact ⟨by first | rfl | (simp; done) | (simp [*]; done), by repeat (first | exact Drawn0.refl _ | apply Drawn0.step)⟩

/-! ### view_Next: function 15 -/
def view_Next.f (a0 : Int) (a1 : Int) (a2 : Int) : Option (Int) := if a0 < 0 then (some (-1)) else (if a0 > 1099511627776 then (some (-1)) else ((view_nodes.f a2).bind fun t102 => (if t102 = true then (if a1 < 1 then (some (-1)) else (if a1 > a2 then (some (-1)) else ((view_Leader.f (wrap64 (a0 + 1)) a2).bind fun t103 => (if a2 = 0 then (none) else (some (wrap64 ((wrap64 (a0 + 1)) + (Int.tmod (wrap64 ((wrap64 (a1 - t103)) + a2)) a2)))))))) else (some (-1)))))
set_option maxHeartbeats 8000000 in
set_option maxRecDepth 100000 in
theorem view_Next.calls (a0 : Int) (a1 : Int) (a2 : Int) (r : Int) (w : World) (h : view_Next.f a0 a1 a2 = some r) :
    Calls Try.prog 15 #[.int .i64 a0, .int .i64 a1, .int .i64 a2] w fun e w' => e = .returned (.int .i64 r) ∧ Drawn0 w w' := by
  have H : (if a0 < 0 then (some (-1)) else (if a0 > 1099511627776 then (some (-1)) else ((view_nodes.f a2).bind fun t102 => (if t102 = true then (if a1 < 1 then (some (-1)) else (if a1 > a2 then (some (-1)) else ((view_Leader.f (wrap64 (a0 + 1)) a2).bind fun t103 => (if a2 = 0 then (none) else (some (wrap64 ((wrap64 (a0 + 1)) + (Int.tmod (wrap64 ((wrap64 (a1 - t103)) + a2)) a2)))))))) else (some (-1)))))) = some r := h
  clear h
  by_cases c4 : a0 < 0
  · rw [if_pos c4] at H
    have c4b0 : decide (a0 < 0) = true := decide_eq_true c4
    clear c4
    obtain rfl := Option.some.inj H
    go_enter Try.func15, Try.ntmps15
    go_wp2
    go_ret
    exact ⟨by first | rfl | (simp; done) | (simp [*]; done), by repeat (first | exact Drawn0.refl _ | apply Drawn0.step)⟩
  · rw [if_neg c4] at H
    have c4b0 : decide (a0 < 0) = false := decide_eq_false c4
    clear c4
    by_cases c5 : a0 > 1099511627776
    · rw [if_pos c5] at H
      have c5b0 : decide (1099511627776 < a0) = true := decide_eq_true c5
      clear c5
      obtain rfl := Option.some.inj H
      go_enter Try.func15, Try.ntmps15
      go_wp2
      go_ret
      exact ⟨by first | rfl | (simp; done) | (simp [*]; done), by repeat (first | exact Drawn0.refl _ | apply Drawn0.step)⟩
    · rw [if_neg c5] at H
      have c5b0 : decide (1099511627776 < a0) = false := decide_eq_false c5
      clear c5
      replace H := Option.bind_eq_some_iff.mp H
      obtain ⟨t102, A60, H⟩ := H
      replace H : (if t102 = true then (if a1 < 1 then (some (-1)) else (if a1 > a2 then (some (-1)) else ((view_Leader.f (wrap64 (a0 + 1)) a2).bind fun t103 => (if a2 = 0 then (none) else (some (wrap64 ((wrap64 (a0 + 1)) + (Int.tmod (wrap64 ((wrap64 (a1 - t103)) + a2)) a2)))))))) else (some (-1))) = some r := H
      have A6 := Aside0.mk A60
      clear A60
      by_cases c7 : t102 = true
      · subst c7
        have H1 : (if a1 < 1 then (some (-1)) else (if a1 > a2 then (some (-1)) else ((view_Leader.f (wrap64 (a0 + 1)) a2).bind fun t103 => (if a2 = 0 then (none) else (some (wrap64 ((wrap64 (a0 + 1)) + (Int.tmod (wrap64 ((wrap64 (a1 - t103)) + a2)) a2)))))))) = some r := by rw [if_pos rfl] at H; exact H
        clear H
        have H := H1
        clear H1
        by_cases c8 : a1 < 1
        · rw [if_pos c8] at H
          have c8b0 : decide (a1 < 1) = true := decide_eq_true c8
          clear c8
          obtain rfl := Option.some.inj H
          go_enter Try.func15, Try.ntmps15
          go_wp2_with (first | (go_at_call 33; (with_reducible refine (view_nodes.calls a2 true _ A6.out).mono ?_); rintro e w' ⟨rfl, ⟨nd, rfl⟩⟩))
          go_ret
          exact ⟨by first | rfl | (simp; done) | (simp [*]; done), by repeat (first | exact Drawn0.refl _ | apply Drawn0.step)⟩
        · rw [if_neg c8] at H
          have c8b0 : decide (a1 < 1) = false := decide_eq_false c8
          clear c8
          by_cases c9 : a1 > a2
          · rw [if_pos c9] at H
            have c9b0 : decide (a2 < a1) = true := decide_eq_true c9
            clear c9
            obtain rfl := Option.some.inj H
            go_enter Try.func15, Try.ntmps15
            go_wp2_with (first | (go_at_call 33; (with_reducible refine (view_nodes.calls a2 true _ A6.out).mono ?_); rintro e w' ⟨rfl, ⟨nd, rfl⟩⟩))
            go_ret
            exact ⟨by first | rfl | (simp; done) | (simp [*]; done), by repeat (first | exact Drawn0.refl _ | apply Drawn0.step)⟩
          · rw [if_neg c9] at H
            have c9b0 : decide (a2 < a1) = false := decide_eq_false c9
            clear c9
            replace H := Option.bind_eq_some_iff.mp H
            obtain ⟨t103, A100, H⟩ := H
            replace H : (if a2 = 0 then (none) else (some (wrap64 ((wrap64 (a0 + 1)) + (Int.tmod (wrap64 ((wrap64 (a1 - t103)) + a2)) a2))))) = some r := H
            have A10 := Aside0.mk A100
            clear A100
            by_cases c11 : a2 = 0
            · rw [if_pos c11] at H
              exact absurd H (by simp)
            · rw [if_neg c11] at H
              have c11b0 : (a2 == 0) = false := beq_eq_false_iff_ne.mpr c11
              have c11b1 : (a2 != 0) = true := bne_iff_ne.mpr c11
              obtain rfl := Option.some.inj H
              go_enter Try.func15, Try.ntmps15
              go_wp2_with (first | (go_at_call 33; (with_reducible refine (view_nodes.calls a2 true _ A6.out).mono ?_); rintro e w' ⟨rfl, ⟨nd, rfl⟩⟩) | ((with_reducible refine gate_callee (f := 9) rfl ?_); refine goesL_ (some 33) rfl rfl Try.func9 (by kernel_rfl) rfl #[.int .i64 (wrap64 (a0 + 1)), .int .i64 a2] rfl (by (try simp only [List.map_toArray, List.map_cons, List.map_nil]); first | done | rfl | (simp only [List.length_drop, List.length_take]; rfl)) ?_; (with_reducible refine (view_Leader.calls (wrap64 (a0 + 1)) a2 t103 _ A10.out).mono ?_); rintro e w' ⟨rfl, ⟨nd, rfl⟩⟩; refine ⟨_, rfl, ?_⟩))
              go_ret
              exact ⟨by first | rfl | (simp; done) | (simp [*]; done), by repeat (first | exact Drawn0.refl _ | apply Drawn0.step)⟩
      · replace c7 := Bool.eq_false_iff.mpr c7
        subst c7
        have H1 : (some (-1)) = some r := by rw [if_neg (show ¬ (false = true) by decide)] at H; exact H
        clear H
        have H := H1
        clear H1
        obtain rfl := Option.some.inj H
        go_enter Try.func15, Try.ntmps15
        go_wp2_with (first | (go_at_call 33; (with_reducible refine (view_nodes.calls a2 false _ A6.out).mono ?_); rintro e w' ⟨rfl, ⟨nd, rfl⟩⟩))
        go_ret
        exact ⟨by first | rfl | (simp; done) | (simp [*]; done), by repeat (first | exact Drawn0.refl _ | apply Drawn0.step)⟩

/-! ### view_Quorum: function 11 -/
def view_Quorum.f (a0 : Int) : Option (Int) := (view_nodes.f a0).bind fun t104 => (if t104 = true then (some (wrap64 ((wrap64 (Int.tdiv a0 2)) + 1))) else (some 0))
set_option maxHeartbeats 8000000 in
set_option maxRecDepth 100000 in
theorem view_Quorum.calls (a0 : Int) (r : Int) (w : World) (h : view_Quorum.f a0 = some r) :
    Calls Try.prog 11 #[.int .i64 a0] w fun e w' => e = .returned (.int .i64 r) ∧ Drawn0 w w' := by
  have H : ((view_nodes.f a0).bind fun t104 => (if t104 = true then (some (wrap64 ((wrap64 (Int.tdiv a0 2)) + 1))) else (some 0))) = some r := h
  clear h
  replace H := Option.bind_eq_some_iff.mp H
  obtain ⟨t104, A20, H⟩ := H
  replace H : (if t104 = true then (some (wrap64 ((wrap64 (Int.tdiv a0 2)) + 1))) else (some 0)) = some r := H
  have A2 := Aside0.mk A20
  clear A20
  by_cases c3 : t104 = true
  · subst c3
    have H1 : (some (wrap64 ((wrap64 (Int.tdiv a0 2)) + 1))) = some r := by rw [if_pos rfl] at H; exact H
    clear H
    have H := H1
    clear H1
    obtain rfl := Option.some.inj H
    go_enter Try.func11, Try.ntmps11
    go_wp2_with (first | ((with_reducible refine gate_callee (f := 33) rfl ?_); refine goesL_ (some 4) rfl rfl Try.func33 (by kernel_rfl) rfl #[.int .i64 a0] rfl (by (try simp only [List.map_toArray, List.map_cons, List.map_nil]); first | done | rfl | (simp only [List.length_drop, List.length_take]; rfl)) ?_; (with_reducible refine (view_nodes.calls a0 true _ A2.out).mono ?_); rintro e w' ⟨rfl, ⟨nd, rfl⟩⟩; refine ⟨_, rfl, ?_⟩))
    go_ret
    exact ⟨by first | rfl | (simp; done) | (simp [*]; done), by repeat (first | exact Drawn0.refl _ | apply Drawn0.step)⟩
  · replace c3 := Bool.eq_false_iff.mpr c3
    subst c3
    have H1 : (some 0) = some r := by rw [if_neg (show ¬ (false = true) by decide)] at H; exact H
    clear H
    have H := H1
    clear H1
    obtain rfl := Option.some.inj H
    go_enter Try.func11, Try.ntmps11
    go_wp2_with (first | ((with_reducible refine gate_callee (f := 33) rfl ?_); refine goesL_ (some 4) rfl rfl Try.func33 (by kernel_rfl) rfl #[.int .i64 a0] rfl (by (try simp only [List.map_toArray, List.map_cons, List.map_nil]); first | done | rfl | (simp only [List.length_drop, List.length_take]; rfl)) ?_; (with_reducible refine (view_nodes.calls a0 false _ A2.out).mono ?_); rintro e w' ⟨rfl, ⟨nd, rfl⟩⟩; refine ⟨_, rfl, ?_⟩))
    go_ret
    exact ⟨by first | rfl | (simp; done) | (simp [*]; done), by repeat (first | exact Drawn0.refl _ | apply Drawn0.step)⟩

/-! ### view_Faults: function 13 -/
def view_Faults.f (a0 : Int) : Option (Int) := (view_nodes.f a0).bind fun t105 => (if t105 = true then (some (wrap64 (Int.tdiv (wrap64 (a0 - 1)) 2))) else (some 0))
set_option maxHeartbeats 8000000 in
set_option maxRecDepth 100000 in
theorem view_Faults.calls (a0 : Int) (r : Int) (w : World) (h : view_Faults.f a0 = some r) :
    Calls Try.prog 13 #[.int .i64 a0] w fun e w' => e = .returned (.int .i64 r) ∧ Drawn0 w w' := by
  have H : ((view_nodes.f a0).bind fun t105 => (if t105 = true then (some (wrap64 (Int.tdiv (wrap64 (a0 - 1)) 2))) else (some 0))) = some r := h
  clear h
  replace H := Option.bind_eq_some_iff.mp H
  obtain ⟨t105, A20, H⟩ := H
  replace H : (if t105 = true then (some (wrap64 (Int.tdiv (wrap64 (a0 - 1)) 2))) else (some 0)) = some r := H
  have A2 := Aside0.mk A20
  clear A20
  by_cases c3 : t105 = true
  · subst c3
    have H1 : (some (wrap64 (Int.tdiv (wrap64 (a0 - 1)) 2))) = some r := by rw [if_pos rfl] at H; exact H
    clear H
    have H := H1
    clear H1
    obtain rfl := Option.some.inj H
    go_enter Try.func13, Try.ntmps13
    go_wp2_with (first | ((with_reducible refine gate_callee (f := 33) rfl ?_); refine goesL_ (some 4) rfl rfl Try.func33 (by kernel_rfl) rfl #[.int .i64 a0] rfl (by (try simp only [List.map_toArray, List.map_cons, List.map_nil]); first | done | rfl | (simp only [List.length_drop, List.length_take]; rfl)) ?_; (with_reducible refine (view_nodes.calls a0 true _ A2.out).mono ?_); rintro e w' ⟨rfl, ⟨nd, rfl⟩⟩; refine ⟨_, rfl, ?_⟩))
    go_ret
    exact ⟨by first | rfl | (simp; done) | (simp [*]; done), by repeat (first | exact Drawn0.refl _ | apply Drawn0.step)⟩
  · replace c3 := Bool.eq_false_iff.mpr c3
    subst c3
    have H1 : (some 0) = some r := by rw [if_neg (show ¬ (false = true) by decide)] at H; exact H
    clear H
    have H := H1
    clear H1
    obtain rfl := Option.some.inj H
    go_enter Try.func13, Try.ntmps13
    go_wp2_with (first | ((with_reducible refine gate_callee (f := 33) rfl ?_); refine goesL_ (some 4) rfl rfl Try.func33 (by kernel_rfl) rfl #[.int .i64 a0] rfl (by (try simp only [List.map_toArray, List.map_cons, List.map_nil]); first | done | rfl | (simp only [List.length_drop, List.length_take]; rfl)) ?_; (with_reducible refine (view_nodes.calls a0 false _ A2.out).mono ?_); rintro e w' ⟨rfl, ⟨nd, rfl⟩⟩; refine ⟨_, rfl, ?_⟩))
    go_ret
    exact ⟨by first | rfl | (simp; done) | (simp [*]; done), by repeat (first | exact Drawn0.refl _ | apply Drawn0.step)⟩

/-! ### droverlaw08_lives: function 17 -/
def droverlaw08_lives.f  : Option (Bool) := (view_Leader.f 4 3).bind fun t106 => (if t106 = 2 then ((view_Quorum.f 4).bind fun t107 => (if t107 = 3 then ((view_Faults.f 4).bind fun t108 => (if t108 = 1 then ((view_Next.f 4 1 3).bind fun t109 => (some (t109 == 6))) else (some false))) else (some false))) else (some false))
set_option maxHeartbeats 8000000 in
set_option maxRecDepth 100000 in
theorem droverlaw08_lives.calls  (r : Bool) (w : World) (h : droverlaw08_lives.f  = some r) :
    Calls Try.prog 17 #[] w fun e w' => e = .returned (.bool r) ∧ Drawn0 w w' := by
  have H : ((view_Leader.f 4 3).bind fun t106 => (if t106 = 2 then ((view_Quorum.f 4).bind fun t107 => (if t107 = 3 then ((view_Faults.f 4).bind fun t108 => (if t108 = 1 then ((view_Next.f 4 1 3).bind fun t109 => (some (t109 == 6))) else (some false))) else (some false))) else (some false))) = some r := h
  clear h
  replace H := Option.bind_eq_some_iff.mp H
  obtain ⟨t106, A10, H⟩ := H
  replace H : (if t106 = 2 then ((view_Quorum.f 4).bind fun t107 => (if t107 = 3 then ((view_Faults.f 4).bind fun t108 => (if t108 = 1 then ((view_Next.f 4 1 3).bind fun t109 => (some (t109 == 6))) else (some false))) else (some false))) else (some false)) = some r := H
  have A1 := Aside0.mk A10
  clear A10
  by_cases c2 : t106 = 2
  · rw [if_pos c2] at H
    have c2b0 : (t106 == 2) = true := beq_iff_eq.mpr c2
    have c2b1 : (t106 != 2) = false := bne_eq_false_iff_eq.mpr c2
    clear c2
    replace H := Option.bind_eq_some_iff.mp H
    obtain ⟨t107, A30, H⟩ := H
    replace H : (if t107 = 3 then ((view_Faults.f 4).bind fun t108 => (if t108 = 1 then ((view_Next.f 4 1 3).bind fun t109 => (some (t109 == 6))) else (some false))) else (some false)) = some r := H
    have A3 := Aside0.mk A30
    clear A30
    by_cases c4 : t107 = 3
    · rw [if_pos c4] at H
      have c4b0 : (t107 == 3) = true := beq_iff_eq.mpr c4
      have c4b1 : (t107 != 3) = false := bne_eq_false_iff_eq.mpr c4
      clear c4
      replace H := Option.bind_eq_some_iff.mp H
      obtain ⟨t108, A50, H⟩ := H
      replace H : (if t108 = 1 then ((view_Next.f 4 1 3).bind fun t109 => (some (t109 == 6))) else (some false)) = some r := H
      have A5 := Aside0.mk A50
      clear A50
      by_cases c6 : t108 = 1
      · rw [if_pos c6] at H
        have c6b0 : (t108 == 1) = true := beq_iff_eq.mpr c6
        have c6b1 : (t108 != 1) = false := bne_eq_false_iff_eq.mpr c6
        clear c6
        replace H := Option.bind_eq_some_iff.mp H
        obtain ⟨t109, A70, H⟩ := H
        replace H : (some (t109 == 6)) = some r := H
        have A7 := Aside0.mk A70
        clear A70
        obtain rfl := Option.some.inj H
        go_enter Try.func17, Try.ntmps17
        go_wp2_with (first | ((with_reducible refine gate_callee (f := 9) rfl ?_); refine goesL_ (some 1) rfl rfl Try.func9 (by kernel_rfl) rfl #[.int .i64 4, .int .i64 3] rfl (by (try simp only [List.map_toArray, List.map_cons, List.map_nil]); first | done | rfl | (simp only [List.length_drop, List.length_take]; rfl)) ?_; (with_reducible refine (view_Leader.calls 4 3 t106 _ A1.out).mono ?_); rintro e w' ⟨rfl, ⟨nd, rfl⟩⟩; refine ⟨_, rfl, ?_⟩) | (go_at_call 11; (with_reducible refine (view_Quorum.calls 4 t107 _ A3.out).mono ?_); rintro e w' ⟨rfl, ⟨nd, rfl⟩⟩) | (go_at_call 13; (with_reducible refine (view_Faults.calls 4 t108 _ A5.out).mono ?_); rintro e w' ⟨rfl, ⟨nd, rfl⟩⟩) | (go_at_call 15; (with_reducible refine (view_Next.calls 4 1 3 t109 _ A7.out).mono ?_); rintro e w' ⟨rfl, ⟨nd, rfl⟩⟩))
        go_ret
        exact ⟨by first | rfl | (simp; done) | (simp [*]; done), by repeat (first | exact Drawn0.refl _ | apply Drawn0.step)⟩
      · rw [if_neg c6] at H
        have c6b0 : (t108 == 1) = false := beq_eq_false_iff_ne.mpr c6
        have c6b1 : (t108 != 1) = true := bne_iff_ne.mpr c6
        obtain rfl := Option.some.inj H
        go_enter Try.func17, Try.ntmps17
        go_wp2_with (first | ((with_reducible refine gate_callee (f := 9) rfl ?_); refine goesL_ (some 1) rfl rfl Try.func9 (by kernel_rfl) rfl #[.int .i64 4, .int .i64 3] rfl (by (try simp only [List.map_toArray, List.map_cons, List.map_nil]); first | done | rfl | (simp only [List.length_drop, List.length_take]; rfl)) ?_; (with_reducible refine (view_Leader.calls 4 3 t106 _ A1.out).mono ?_); rintro e w' ⟨rfl, ⟨nd, rfl⟩⟩; refine ⟨_, rfl, ?_⟩) | (go_at_call 11; (with_reducible refine (view_Quorum.calls 4 t107 _ A3.out).mono ?_); rintro e w' ⟨rfl, ⟨nd, rfl⟩⟩) | (go_at_call 13; (with_reducible refine (view_Faults.calls 4 t108 _ A5.out).mono ?_); rintro e w' ⟨rfl, ⟨nd, rfl⟩⟩))
        go_ret
        exact ⟨by first | rfl | (simp; done) | (simp [*]; done), by repeat (first | exact Drawn0.refl _ | apply Drawn0.step)⟩
    · rw [if_neg c4] at H
      have c4b0 : (t107 == 3) = false := beq_eq_false_iff_ne.mpr c4
      have c4b1 : (t107 != 3) = true := bne_iff_ne.mpr c4
      obtain rfl := Option.some.inj H
      go_enter Try.func17, Try.ntmps17
      go_wp2_with (first | ((with_reducible refine gate_callee (f := 9) rfl ?_); refine goesL_ (some 1) rfl rfl Try.func9 (by kernel_rfl) rfl #[.int .i64 4, .int .i64 3] rfl (by (try simp only [List.map_toArray, List.map_cons, List.map_nil]); first | done | rfl | (simp only [List.length_drop, List.length_take]; rfl)) ?_; (with_reducible refine (view_Leader.calls 4 3 t106 _ A1.out).mono ?_); rintro e w' ⟨rfl, ⟨nd, rfl⟩⟩; refine ⟨_, rfl, ?_⟩) | (go_at_call 11; (with_reducible refine (view_Quorum.calls 4 t107 _ A3.out).mono ?_); rintro e w' ⟨rfl, ⟨nd, rfl⟩⟩))
      go_ret
      exact ⟨by first | rfl | (simp; done) | (simp [*]; done), by repeat (first | exact Drawn0.refl _ | apply Drawn0.step)⟩
  · rw [if_neg c2] at H
    have c2b0 : (t106 == 2) = false := beq_eq_false_iff_ne.mpr c2
    have c2b1 : (t106 != 2) = true := bne_iff_ne.mpr c2
    obtain rfl := Option.some.inj H
    go_enter Try.func17, Try.ntmps17
    go_wp2_with (first | ((with_reducible refine gate_callee (f := 9) rfl ?_); refine goesL_ (some 1) rfl rfl Try.func9 (by kernel_rfl) rfl #[.int .i64 4, .int .i64 3] rfl (by (try simp only [List.map_toArray, List.map_cons, List.map_nil]); first | done | rfl | (simp only [List.length_drop, List.length_take]; rfl)) ?_; (with_reducible refine (view_Leader.calls 4 3 t106 _ A1.out).mono ?_); rintro e w' ⟨rfl, ⟨nd, rfl⟩⟩; refine ⟨_, rfl, ?_⟩))
    go_ret
    exact ⟨by first | rfl | (simp; done) | (simp [*]; done), by repeat (first | exact Drawn0.refl _ | apply Drawn0.step)⟩

/-! ### droverlaw08_ViewTurns: function 4 -/
mutual
def droverlaw08_ViewTurns.l0 : Nat → Int → Int → Int → Int → Int → Option (Bool)
  | 0, _, _, _, _, _ => none
  | k + 1, x7, x8, x9, x10, x11 => if x11 < x7 then ((view_Leader.f (wrap64 (x8 + x11)) x7).bind fun t110 => (if t110 = x9 then (droverlaw08_ViewTurns.l0 k x7 x8 x9 (wrap64 (x10 + 1)) (wrap64 (x11 + 1))) else (droverlaw08_ViewTurns.l0 k x7 x8 x9 x10 (wrap64 (x11 + 1))))) else ((view_Next.f x8 x9 x7).bind fun t111 => (if x10 = 1 then (if t111 ≤ x8 then (droverlaw08_ViewTurns.j1 k x7 x8 x9 t111 true) else (if t111 > (wrap64 (x8 + x7)) then (droverlaw08_ViewTurns.j1 k x7 x8 x9 t111 true) else ((view_Leader.f t111 x7).bind fun t112 => (droverlaw08_ViewTurns.j1 k x7 x8 x9 t111 (t112 != x9))))) else (droverlaw08_ViewTurns.j1 k x7 x8 x9 t111 true)))
def droverlaw08_ViewTurns.j1 : Nat → Int → Int → Int → Int → Bool → Option (Bool)
  | 0, _, _, _, _, _ => none
  | k + 1, x7, x8, x9, x12, x65 => if x65 = true then (some false) else (droverlaw08_ViewTurns.l1 k x7 x9 x12 (wrap64 (x8 + 1)))
def droverlaw08_ViewTurns.l1 : Nat → Int → Int → Int → Int → Option (Bool)
  | 0, _, _, _, _ => none
  | k + 1, x7, x9, x12, x13 => if x13 < x12 then ((view_Leader.f x13 x7).bind fun t113 => (if t113 = x9 then (some false) else (droverlaw08_ViewTurns.l1 k x7 x9 x12 (wrap64 (x13 + 1))))) else ((droverlaw08_lives.f).bind fun t114 => (some t114))
end
def droverlaw08_ViewTurns.f (k : Nat) (a0 : Int) (a1 : Int) (a2 : Int) : Option (Bool) := if (IntKind.u64.wrap (wrap64 (2 + (wrap64 (Int.tmod a1 4))))) = 0 then (none) else (droverlaw08_ViewTurns.l0 k (wrap64 (2 + (wrap64 (Int.tmod a1 4)))) (wrap64 (Int.tmod a0 1099511627776)) (wrap64 (1 + (wrap64 (Int.tmod a2 (IntKind.u64.wrap (wrap64 (2 + (wrap64 (Int.tmod a1 4))))))))) 0 0)
theorem droverlaw08_ViewTurns.mono_l : ∀ k, (∀ y0 y1 y2 y3 y4, LeO (droverlaw08_ViewTurns.l0 k y0 y1 y2 y3 y4) (droverlaw08_ViewTurns.l0 (k + 1) y0 y1 y2 y3 y4)) ∧ (∀ y0 y1 y2 y3 y4, LeO (droverlaw08_ViewTurns.j1 k y0 y1 y2 y3 y4) (droverlaw08_ViewTurns.j1 (k + 1) y0 y1 y2 y3 y4)) ∧ (∀ y0 y1 y2 y3, LeO (droverlaw08_ViewTurns.l1 k y0 y1 y2 y3) (droverlaw08_ViewTurns.l1 (k + 1) y0 y1 y2 y3))
  | 0 => ⟨fun _ _ _ _ _ r h => by simp [droverlaw08_ViewTurns.l0] at h, fun _ _ _ _ _ r h => by simp [droverlaw08_ViewTurns.j1] at h, fun _ _ _ _ r h => by simp [droverlaw08_ViewTurns.l1] at h⟩
  | k + 1 => by
    obtain ⟨ih0, ih1, ih2⟩ := droverlaw08_ViewTurns.mono_l k
    refine ⟨?_, ?_, ?_⟩
    · intro y0 y1 y2 y3 y4
      unfold droverlaw08_ViewTurns.l0
      repeat' first
      | (with_reducible exact ih0 _ _ _ _ _)
      | (with_reducible exact ih1 _ _ _ _ _)
      | (with_reducible exact ih2 _ _ _ _)
      | (with_reducible exact LeO.refl _)
      | (with_reducible exact LeO.none _)
      | (with_reducible refine LeO.ite ?_ ?_)
      | (with_reducible refine LeO.bind ?_ (fun _ => ?_))
      | exact ih0 _ _ _ _ _
      | exact ih1 _ _ _ _ _
      | exact ih2 _ _ _ _
      | exact LeO.none _
      | refine LeO.ite ?_ ?_
      | refine LeO.bind ?_ (fun _ => ?_)
    · intro y0 y1 y2 y3 y4
      unfold droverlaw08_ViewTurns.j1
      repeat' first
      | (with_reducible exact ih0 _ _ _ _ _)
      | (with_reducible exact ih1 _ _ _ _ _)
      | (with_reducible exact ih2 _ _ _ _)
      | (with_reducible exact LeO.refl _)
      | (with_reducible exact LeO.none _)
      | (with_reducible refine LeO.ite ?_ ?_)
      | (with_reducible refine LeO.bind ?_ (fun _ => ?_))
      | exact ih0 _ _ _ _ _
      | exact ih1 _ _ _ _ _
      | exact ih2 _ _ _ _
      | exact LeO.none _
      | refine LeO.ite ?_ ?_
      | refine LeO.bind ?_ (fun _ => ?_)
    · intro y0 y1 y2 y3
      unfold droverlaw08_ViewTurns.l1
      repeat' first
      | (with_reducible exact ih0 _ _ _ _ _)
      | (with_reducible exact ih1 _ _ _ _ _)
      | (with_reducible exact ih2 _ _ _ _)
      | (with_reducible exact LeO.refl _)
      | (with_reducible exact LeO.none _)
      | (with_reducible refine LeO.ite ?_ ?_)
      | (with_reducible refine LeO.bind ?_ (fun _ => ?_))
      | exact ih0 _ _ _ _ _
      | exact ih1 _ _ _ _ _
      | exact ih2 _ _ _ _
      | exact LeO.none _
      | refine LeO.ite ?_ ?_
      | refine LeO.bind ?_ (fun _ => ?_)
theorem droverlaw08_ViewTurns.mono : ∀ a0 a1 a2 k, LeO (droverlaw08_ViewTurns.f k a0 a1 a2) (droverlaw08_ViewTurns.f (k + 1) a0 a1 a2) := by
  intro a0 a1 a2 k
  obtain ⟨ih0, ih1, ih2⟩ := droverlaw08_ViewTurns.mono_l k
  unfold droverlaw08_ViewTurns.f
  repeat' first
      | (with_reducible exact ih0 _ _ _ _ _)
      | (with_reducible exact ih1 _ _ _ _ _)
      | (with_reducible exact ih2 _ _ _ _)
      | (with_reducible exact LeO.refl _)
      | (with_reducible exact LeO.none _)
      | (with_reducible refine LeO.ite ?_ ?_)
      | (with_reducible refine LeO.bind ?_ (fun _ => ?_))
      | exact ih0 _ _ _ _ _
      | exact ih1 _ _ _ _ _
      | exact ih2 _ _ _ _
      | exact LeO.none _
      | refine LeO.ite ?_ ?_
      | refine LeO.bind ?_ (fun _ => ?_)
set_option maxHeartbeats 8000000 in
set_option maxRecDepth 100000 in
theorem droverlaw08_ViewTurns.calls (k : Nat) (a0 : Int) (a1 : Int) (a2 : Int) (r : Bool) (w : World) (h : droverlaw08_ViewTurns.f k a0 a1 a2 = some r) :
    Calls Try.prog 4 #[.int .u64 a0, .int .u64 a1, .int .u64 a2] w fun e w' => e = .returned (.bool r) ∧ Drawn0 w w' := by
  have H : (if (IntKind.u64.wrap (wrap64 (2 + (wrap64 (Int.tmod a1 4))))) = 0 then (none) else (droverlaw08_ViewTurns.l0 k (wrap64 (2 + (wrap64 (Int.tmod a1 4)))) (wrap64 (Int.tmod a0 1099511627776)) (wrap64 (1 + (wrap64 (Int.tmod a2 (IntKind.u64.wrap (wrap64 (2 + (wrap64 (Int.tmod a1 4))))))))) 0 0)) = some r := h
  clear h
  by_cases c4 : (IntKind.u64.wrap (wrap64 (2 + (wrap64 (Int.tmod a1 4))))) = 0
  · rw [if_pos c4] at H
    exact absurd H (by simp)
  · rw [if_neg c4] at H
    have c4b0 : ((IntKind.u64.wrap (wrap64 (2 + (wrap64 (Int.tmod a1 4))))) == 0) = false := beq_eq_false_iff_ne.mpr c4
    have c4b1 : ((IntKind.u64.wrap (wrap64 (2 + (wrap64 (Int.tmod a1 4))))) != 0) = true := bne_iff_ne.mpr c4
    have H' := Aside0.mk H
    clear H
    go_enter Try.func4, Try.ntmps4
    go_wp2
    go_loopg [10, 11] k (fun kq v10 v11 w' => ∃ (x10_1 : Int) (x11_1 : Int), v10 = .int .i64 x10_1 ∧ v11 = .int .i64 x11_1 ∧ Aside0 (droverlaw08_ViewTurns.l0 kq (wrap64 (2 + (wrap64 (Int.tmod a1 4)))) (wrap64 (Int.tmod a0 1099511627776)) (wrap64 (1 + (wrap64 (Int.tmod a2 (IntKind.u64.wrap (wrap64 (2 + (wrap64 (Int.tmod a1 4))))))))) x10_1 x11_1 = some r) ∧ Aside0 (kq ≤ k) ∧ Drawn0 w w')
    case atStart => exact ⟨(0), (0), (by first | rfl | (simp; done) | (simp [*]; done)), (by first | rfl | (simp; done) | (simp [*]; done)), H', ⟨Nat.le_refl _⟩, by repeat (first | exact Drawn0.refl _ | apply Drawn0.step)⟩
    case round =>
      clear H'
      try clear p2
      try clear c4
      try clear c4b0
      try clear c4b1
      obtain ⟨x10_1, x11_1, rfl, rfl, HA, HK1, ⟨m1, rfl⟩⟩ := hrel
      cases gk with
      | zero => exact absurd HA.out (by simp [droverlaw08_ViewTurns.l0])
      | succ k1 =>
        have H := HA.out
        clear HA
        simp only [droverlaw08_ViewTurns.l0] at H
        by_cases c5 : x11_1 < (wrap64 (2 + (wrap64 (Int.tmod a1 4))))
        · rw [if_pos c5] at H
          have c5b0 : decide (x11_1 < (wrap64 (2 + (wrap64 (Int.tmod a1 4))))) = true := decide_eq_true c5
          clear c5
          replace H := Option.bind_eq_some_iff.mp H
          obtain ⟨t110, A60, H⟩ := H
          replace H : (if t110 = (wrap64 (1 + (wrap64 (Int.tmod a2 (IntKind.u64.wrap (wrap64 (2 + (wrap64 (Int.tmod a1 4))))))))) then (droverlaw08_ViewTurns.l0 k1 (wrap64 (2 + (wrap64 (Int.tmod a1 4)))) (wrap64 (Int.tmod a0 1099511627776)) (wrap64 (1 + (wrap64 (Int.tmod a2 (IntKind.u64.wrap (wrap64 (2 + (wrap64 (Int.tmod a1 4))))))))) (wrap64 (x10_1 + 1)) (wrap64 (x11_1 + 1))) else (droverlaw08_ViewTurns.l0 k1 (wrap64 (2 + (wrap64 (Int.tmod a1 4)))) (wrap64 (Int.tmod a0 1099511627776)) (wrap64 (1 + (wrap64 (Int.tmod a2 (IntKind.u64.wrap (wrap64 (2 + (wrap64 (Int.tmod a1 4))))))))) x10_1 (wrap64 (x11_1 + 1)))) = some r := H
          have A6 := Aside0.mk A60
          clear A60
          by_cases c7 : t110 = (wrap64 (1 + (wrap64 (Int.tmod a2 (IntKind.u64.wrap (wrap64 (2 + (wrap64 (Int.tmod a1 4)))))))))
          · rw [if_pos c7] at H
            have c7b0 : (t110 == (wrap64 (1 + (wrap64 (Int.tmod a2 (IntKind.u64.wrap (wrap64 (2 + (wrap64 (Int.tmod a1 4)))))))))) = true := beq_iff_eq.mpr c7
            have c7b1 : (t110 != (wrap64 (1 + (wrap64 (Int.tmod a2 (IntKind.u64.wrap (wrap64 (2 + (wrap64 (Int.tmod a1 4)))))))))) = false := bne_eq_false_iff_eq.mpr c7
            clear c7
            have H' := Aside0.mk H
            clear H
            go_wp2_with (first | ((with_reducible refine gate_callee (f := 9) rfl ?_); refine goesL_ (some 36) rfl rfl Try.func9 (by kernel_rfl) rfl #[.int .i64 (wrap64 ((wrap64 (Int.tmod a0 1099511627776)) + x11_1)), .int .i64 (wrap64 (2 + (wrap64 (Int.tmod a1 4))))] rfl (by (try simp only [List.map_toArray, List.map_cons, List.map_nil]); first | done | rfl | (simp only [List.length_drop, List.length_take]; rfl)) ?_; (with_reducible refine (view_Leader.calls (wrap64 ((wrap64 (Int.tmod a0 1099511627776)) + x11_1)) (wrap64 (2 + (wrap64 (Int.tmod a1 4)))) t110 _ A6.out).mono ?_); rintro e w' ⟨rfl, ⟨nd, rfl⟩⟩; refine ⟨_, rfl, ?_⟩))
            go_roundg k1
            case measure => have := HK1.out; omega
            case rel => exact ⟨(wrap64 (x10_1 + 1)), (wrap64 (x11_1 + 1)), (by first | rfl | (simp; done) | (simp [*]; done)), (by first | rfl | (simp; done) | (simp [*]; done)), H', ⟨by have := HK1.out; omega⟩, by repeat (first | exact Drawn0.refl _ | apply Drawn0.step)⟩
          · rw [if_neg c7] at H
            have c7b0 : (t110 == (wrap64 (1 + (wrap64 (Int.tmod a2 (IntKind.u64.wrap (wrap64 (2 + (wrap64 (Int.tmod a1 4)))))))))) = false := beq_eq_false_iff_ne.mpr c7
            have c7b1 : (t110 != (wrap64 (1 + (wrap64 (Int.tmod a2 (IntKind.u64.wrap (wrap64 (2 + (wrap64 (Int.tmod a1 4)))))))))) = true := bne_iff_ne.mpr c7
            have H' := Aside0.mk H
            clear H
            go_wp2_with (first | ((with_reducible refine gate_callee (f := 9) rfl ?_); refine goesL_ (some 36) rfl rfl Try.func9 (by kernel_rfl) rfl #[.int .i64 (wrap64 ((wrap64 (Int.tmod a0 1099511627776)) + x11_1)), .int .i64 (wrap64 (2 + (wrap64 (Int.tmod a1 4))))] rfl (by (try simp only [List.map_toArray, List.map_cons, List.map_nil]); first | done | rfl | (simp only [List.length_drop, List.length_take]; rfl)) ?_; (with_reducible refine (view_Leader.calls (wrap64 ((wrap64 (Int.tmod a0 1099511627776)) + x11_1)) (wrap64 (2 + (wrap64 (Int.tmod a1 4)))) t110 _ A6.out).mono ?_); rintro e w' ⟨rfl, ⟨nd, rfl⟩⟩; refine ⟨_, rfl, ?_⟩))
            go_roundg k1
            case measure => have := HK1.out; omega
            case rel => exact ⟨(x10_1), (wrap64 (x11_1 + 1)), (by first | rfl | (simp; done) | (simp [*]; done)), (by first | rfl | (simp; done) | (simp [*]; done)), H', ⟨by have := HK1.out; omega⟩, by repeat (first | exact Drawn0.refl _ | apply Drawn0.step)⟩
        · rw [if_neg c5] at H
          have c5b0 : decide (x11_1 < (wrap64 (2 + (wrap64 (Int.tmod a1 4))))) = false := decide_eq_false c5
          clear c5
          replace H := Option.bind_eq_some_iff.mp H
          obtain ⟨t111, A80, H⟩ := H
          replace H : (if x10_1 = 1 then (if t111 ≤ (wrap64 (Int.tmod a0 1099511627776)) then (droverlaw08_ViewTurns.j1 k1 (wrap64 (2 + (wrap64 (Int.tmod a1 4)))) (wrap64 (Int.tmod a0 1099511627776)) (wrap64 (1 + (wrap64 (Int.tmod a2 (IntKind.u64.wrap (wrap64 (2 + (wrap64 (Int.tmod a1 4))))))))) t111 true) else (if t111 > (wrap64 ((wrap64 (Int.tmod a0 1099511627776)) + (wrap64 (2 + (wrap64 (Int.tmod a1 4)))))) then (droverlaw08_ViewTurns.j1 k1 (wrap64 (2 + (wrap64 (Int.tmod a1 4)))) (wrap64 (Int.tmod a0 1099511627776)) (wrap64 (1 + (wrap64 (Int.tmod a2 (IntKind.u64.wrap (wrap64 (2 + (wrap64 (Int.tmod a1 4))))))))) t111 true) else ((view_Leader.f t111 (wrap64 (2 + (wrap64 (Int.tmod a1 4))))).bind fun t112 => (droverlaw08_ViewTurns.j1 k1 (wrap64 (2 + (wrap64 (Int.tmod a1 4)))) (wrap64 (Int.tmod a0 1099511627776)) (wrap64 (1 + (wrap64 (Int.tmod a2 (IntKind.u64.wrap (wrap64 (2 + (wrap64 (Int.tmod a1 4))))))))) t111 (t112 != (wrap64 (1 + (wrap64 (Int.tmod a2 (IntKind.u64.wrap (wrap64 (2 + (wrap64 (Int.tmod a1 4)))))))))))))) else (droverlaw08_ViewTurns.j1 k1 (wrap64 (2 + (wrap64 (Int.tmod a1 4)))) (wrap64 (Int.tmod a0 1099511627776)) (wrap64 (1 + (wrap64 (Int.tmod a2 (IntKind.u64.wrap (wrap64 (2 + (wrap64 (Int.tmod a1 4))))))))) t111 true)) = some r := H
          have A8 := Aside0.mk A80
          clear A80
          have HC9 := Aside0.mk H
          clear H
          go_upto_region 11 with (first | ((with_reducible refine gate_callee (f := 15) rfl ?_); refine goesL_ (some 44) rfl rfl Try.func15 (by kernel_rfl) rfl #[.int .i64 (wrap64 (Int.tmod a0 1099511627776)), .int .i64 (wrap64 (1 + (wrap64 (Int.tmod a2 (IntKind.u64.wrap (wrap64 (2 + (wrap64 (Int.tmod a1 4))))))))), .int .i64 (wrap64 (2 + (wrap64 (Int.tmod a1 4))))] rfl (by (try simp only [List.map_toArray, List.map_cons, List.map_nil]); first | done | rfl | (simp only [List.length_drop, List.length_take]; rfl)) ?_; (with_reducible refine (view_Next.calls (wrap64 (Int.tmod a0 1099511627776)) (wrap64 (1 + (wrap64 (Int.tmod a2 (IntKind.u64.wrap (wrap64 (2 + (wrap64 (Int.tmod a1 4))))))))) (wrap64 (2 + (wrap64 (Int.tmod a1 4)))) t111 _ A8.out).mono ?_); rintro e w' ⟨rfl, ⟨nd, rfl⟩⟩; refine ⟨_, rfl, ?_⟩))
          (try simp only [Act.put, List.setIfInBounds_toArray, List.set_cons_zero, List.set_cons_succ])
          go_cut [65] (fun v65 wc => ∃ (kq : Nat) (x65_8 : Bool), v65 = .bool x65_8 ∧ Aside0 (droverlaw08_ViewTurns.j1 kq (wrap64 (2 + (wrap64 (Int.tmod a1 4)))) (wrap64 (Int.tmod a0 1099511627776)) (wrap64 (1 + (wrap64 (Int.tmod a2 (IntKind.u64.wrap (wrap64 (2 + (wrap64 (Int.tmod a1 4))))))))) t111 x65_8 = some r) ∧ Aside0 (kq ≤ k1) ∧ Drawn0 w wc)
          case first =>
            have H := HC9.out
            clear HC9
            by_cases c10 : x10_1 = 1
            · rw [if_pos c10] at H
              have c10b0 : (x10_1 == 1) = true := beq_iff_eq.mpr c10
              have c10b1 : (x10_1 != 1) = false := bne_eq_false_iff_eq.mpr c10
              clear c10
              (first | rw [c10b0] | (simp only [i64_w, i32_w]; rw [c10b0]) | skip)
              by_cases c11 : t111 ≤ (wrap64 (Int.tmod a0 1099511627776))
              · rw [if_pos c11] at H
                have c11b0 : decide (t111 ≤ (wrap64 (Int.tmod a0 1099511627776))) = true := decide_eq_true c11
                clear c11
                have H' := Aside0.mk H
                clear H
                go_wp2
                go_meet
                case rel => exact ⟨_, (true), (by first | rfl | (simp; done) | (simp [*]; done)), H', ⟨by have := HK1.out; first | omega | exact Nat.le_refl _⟩, by repeat (first | exact Drawn0.refl _ | apply Drawn0.step)⟩
              · rw [if_neg c11] at H
                have c11b0 : decide (t111 ≤ (wrap64 (Int.tmod a0 1099511627776))) = false := decide_eq_false c11
                clear c11
                by_cases c12 : t111 > (wrap64 ((wrap64 (Int.tmod a0 1099511627776)) + (wrap64 (2 + (wrap64 (Int.tmod a1 4))))))
                · rw [if_pos c12] at H
                  have c12b0 : decide ((wrap64 ((wrap64 (Int.tmod a0 1099511627776)) + (wrap64 (2 + (wrap64 (Int.tmod a1 4)))))) < t111) = true := decide_eq_true c12
                  clear c12
                  have H' := Aside0.mk H
                  clear H
                  go_wp2
                  go_meet
                  case rel => exact ⟨_, (true), (by first | rfl | (simp; done) | (simp [*]; done)), H', ⟨by have := HK1.out; first | omega | exact Nat.le_refl _⟩, by repeat (first | exact Drawn0.refl _ | apply Drawn0.step)⟩
                · rw [if_neg c12] at H
                  have c12b0 : decide ((wrap64 ((wrap64 (Int.tmod a0 1099511627776)) + (wrap64 (2 + (wrap64 (Int.tmod a1 4)))))) < t111) = false := decide_eq_false c12
                  clear c12
                  replace H := Option.bind_eq_some_iff.mp H
                  obtain ⟨t112, A130, H⟩ := H
                  replace H : (droverlaw08_ViewTurns.j1 k1 (wrap64 (2 + (wrap64 (Int.tmod a1 4)))) (wrap64 (Int.tmod a0 1099511627776)) (wrap64 (1 + (wrap64 (Int.tmod a2 (IntKind.u64.wrap (wrap64 (2 + (wrap64 (Int.tmod a1 4))))))))) t111 (t112 != (wrap64 (1 + (wrap64 (Int.tmod a2 (IntKind.u64.wrap (wrap64 (2 + (wrap64 (Int.tmod a1 4))))))))))) = some r := H
                  have A13 := Aside0.mk A130
                  clear A130
                  have H' := Aside0.mk H
                  clear H
                  go_wp2_with (first | (go_at_call 9; (with_reducible refine (view_Leader.calls t111 (wrap64 (2 + (wrap64 (Int.tmod a1 4)))) t112 _ A13.out).mono ?_); rintro e w' ⟨rfl, ⟨nd, rfl⟩⟩))
                  go_meet
                  case rel => exact ⟨_, ((t112 != (wrap64 (1 + (wrap64 (Int.tmod a2 (IntKind.u64.wrap (wrap64 (2 + (wrap64 (Int.tmod a1 4))))))))))), (by first | rfl | (simp; done) | (simp [*]; done)), H', ⟨by have := HK1.out; first | omega | exact Nat.le_refl _⟩, by repeat (first | exact Drawn0.refl _ | apply Drawn0.step)⟩
            · rw [if_neg c10] at H
              have c10b0 : (x10_1 == 1) = false := beq_eq_false_iff_ne.mpr c10
              have c10b1 : (x10_1 != 1) = true := bne_iff_ne.mpr c10
              (first | rw [c10b0] | (simp only [i64_w, i32_w]; rw [c10b0]) | skip)
              have H' := Aside0.mk H
              clear H
              go_wp2
              go_meet
              case rel => exact ⟨_, (true), (by first | rfl | (simp; done) | (simp [*]; done)), H', ⟨by have := HK1.out; first | omega | exact Nat.le_refl _⟩, by repeat (first | exact Drawn0.refl _ | apply Drawn0.step)⟩
          case rest =>
            clear HC9
            try clear c1
            try clear p2
            try clear c4
            try clear c4b0
            try clear c4b1
            try clear c5
            try clear c5b0
            try clear p6
            try clear c7
            try clear c7b0
            try clear c7b1
            try clear c9
            try clear c10
            try clear c10b0
            try clear c10b1
            try clear c11
            try clear c11b0
            try clear c12
            try clear c12b0
            try clear p2
            obtain ⟨kq, x65_8, rfl, HA, HJ8, ⟨mc8, rfl⟩⟩ := hcut
            cases kq with
            | zero => exact absurd HA.out (by simp [droverlaw08_ViewTurns.j1])
            | succ kj8 =>
              have H := HA.out
              clear HA
              simp only [droverlaw08_ViewTurns.j1] at H
              by_cases c14 : x65_8 = true
              · subst c14
                have H1 : (some false) = some r := by rw [if_pos rfl] at H; exact H
                clear H
                have H := H1
                clear H1
                obtain rfl := Option.some.inj H
                go_wp2
                go_ret
                exact ⟨by first | rfl | (simp; done) | (simp [*]; done), by repeat (first | exact Drawn0.refl _ | apply Drawn0.step)⟩
              · replace c14 := Bool.eq_false_iff.mpr c14
                subst c14
                have H1 : (droverlaw08_ViewTurns.l1 kj8 (wrap64 (2 + (wrap64 (Int.tmod a1 4)))) (wrap64 (1 + (wrap64 (Int.tmod a2 (IntKind.u64.wrap (wrap64 (2 + (wrap64 (Int.tmod a1 4))))))))) t111 (wrap64 ((wrap64 (Int.tmod a0 1099511627776)) + 1))) = some r := by rw [if_neg (show ¬ (false = true) by decide)] at H; exact H
                clear H
                have H := H1
                clear H1
                have H' := Aside0.mk H
                clear H
                go_wp2
                go_loopg [13] kj8 (fun kq v13 w' => ∃ (x13_3 : Int), v13 = .int .i64 x13_3 ∧ Aside0 (droverlaw08_ViewTurns.l1 kq (wrap64 (2 + (wrap64 (Int.tmod a1 4)))) (wrap64 (1 + (wrap64 (Int.tmod a2 (IntKind.u64.wrap (wrap64 (2 + (wrap64 (Int.tmod a1 4))))))))) t111 x13_3 = some r) ∧ Aside0 (kq ≤ kj8) ∧ Drawn0 w w')
                case atStart => exact ⟨(wrap64 ((wrap64 (Int.tmod a0 1099511627776)) + 1)), (by first | rfl | (simp; done) | (simp [*]; done)), H', ⟨Nat.le_refl _⟩, by repeat (first | exact Drawn0.refl _ | apply Drawn0.step)⟩
                case round =>
                  clear H'
                  try clear c1
                  try clear p2
                  try clear c4
                  try clear c4b0
                  try clear c4b1
                  try clear c5
                  try clear c5b0
                  try clear p6
                  try clear c7
                  try clear c7b0
                  try clear c7b1
                  try clear c8
                  try clear c9
                  try clear c10
                  try clear c10b0
                  try clear c10b1
                  try clear c11
                  try clear c11b0
                  try clear c12
                  try clear c12b0
                  try clear c14
                  try clear p2
                  try clear p6
                  obtain ⟨x13_3, rfl, HA, HK3, ⟨m3, rfl⟩⟩ := hrel
                  cases gk with
                  | zero => exact absurd HA.out (by simp [droverlaw08_ViewTurns.l1])
                  | succ k3 =>
                    have H := HA.out
                    clear HA
                    simp only [droverlaw08_ViewTurns.l1] at H
                    by_cases c15 : x13_3 < t111
                    · rw [if_pos c15] at H
                      have c15b0 : decide (x13_3 < t111) = true := decide_eq_true c15
                      clear c15
                      replace H := Option.bind_eq_some_iff.mp H
                      obtain ⟨t113, A160, H⟩ := H
                      replace H : (if t113 = (wrap64 (1 + (wrap64 (Int.tmod a2 (IntKind.u64.wrap (wrap64 (2 + (wrap64 (Int.tmod a1 4))))))))) then (some false) else (droverlaw08_ViewTurns.l1 k3 (wrap64 (2 + (wrap64 (Int.tmod a1 4)))) (wrap64 (1 + (wrap64 (Int.tmod a2 (IntKind.u64.wrap (wrap64 (2 + (wrap64 (Int.tmod a1 4))))))))) t111 (wrap64 (x13_3 + 1)))) = some r := H
                      have A16 := Aside0.mk A160
                      clear A160
                      by_cases c17 : t113 = (wrap64 (1 + (wrap64 (Int.tmod a2 (IntKind.u64.wrap (wrap64 (2 + (wrap64 (Int.tmod a1 4)))))))))
                      · rw [if_pos c17] at H
                        have c17b0 : (t113 == (wrap64 (1 + (wrap64 (Int.tmod a2 (IntKind.u64.wrap (wrap64 (2 + (wrap64 (Int.tmod a1 4)))))))))) = true := beq_iff_eq.mpr c17
                        have c17b1 : (t113 != (wrap64 (1 + (wrap64 (Int.tmod a2 (IntKind.u64.wrap (wrap64 (2 + (wrap64 (Int.tmod a1 4)))))))))) = false := bne_eq_false_iff_eq.mpr c17
                        clear c17
                        obtain rfl := Option.some.inj H
                        go_wp2_with (first | ((with_reducible refine gate_callee (f := 9) rfl ?_); refine goesL_ (some 75) rfl rfl Try.func9 (by kernel_rfl) rfl #[.int .i64 x13_3, .int .i64 (wrap64 (2 + (wrap64 (Int.tmod a1 4))))] rfl (by (try simp only [List.map_toArray, List.map_cons, List.map_nil]); first | done | rfl | (simp only [List.length_drop, List.length_take]; rfl)) ?_; (with_reducible refine (view_Leader.calls x13_3 (wrap64 (2 + (wrap64 (Int.tmod a1 4)))) t113 _ A16.out).mono ?_); rintro e w' ⟨rfl, ⟨nd, rfl⟩⟩; refine ⟨_, rfl, ?_⟩))
                        go_ret
                        exact ⟨by first | rfl | (simp; done) | (simp [*]; done), by repeat (first | exact Drawn0.refl _ | apply Drawn0.step)⟩
                      · rw [if_neg c17] at H
                        have c17b0 : (t113 == (wrap64 (1 + (wrap64 (Int.tmod a2 (IntKind.u64.wrap (wrap64 (2 + (wrap64 (Int.tmod a1 4)))))))))) = false := beq_eq_false_iff_ne.mpr c17
                        have c17b1 : (t113 != (wrap64 (1 + (wrap64 (Int.tmod a2 (IntKind.u64.wrap (wrap64 (2 + (wrap64 (Int.tmod a1 4)))))))))) = true := bne_iff_ne.mpr c17
                        have H' := Aside0.mk H
                        clear H
                        go_wp2_with (first | ((with_reducible refine gate_callee (f := 9) rfl ?_); refine goesL_ (some 75) rfl rfl Try.func9 (by kernel_rfl) rfl #[.int .i64 x13_3, .int .i64 (wrap64 (2 + (wrap64 (Int.tmod a1 4))))] rfl (by (try simp only [List.map_toArray, List.map_cons, List.map_nil]); first | done | rfl | (simp only [List.length_drop, List.length_take]; rfl)) ?_; (with_reducible refine (view_Leader.calls x13_3 (wrap64 (2 + (wrap64 (Int.tmod a1 4)))) t113 _ A16.out).mono ?_); rintro e w' ⟨rfl, ⟨nd, rfl⟩⟩; refine ⟨_, rfl, ?_⟩))
                        go_roundg k3
                        case measure => have := HK1.out; have := HJ8.out; have := HK3.out; omega
                        case rel => exact ⟨(wrap64 (x13_3 + 1)), (by first | rfl | (simp; done) | (simp [*]; done)), H', ⟨by have := HK1.out; have := HJ8.out; have := HK3.out; omega⟩, by repeat (first | exact Drawn0.refl _ | apply Drawn0.step)⟩
                    · rw [if_neg c15] at H
                      have c15b0 : decide (x13_3 < t111) = false := decide_eq_false c15
                      clear c15
                      replace H := Option.bind_eq_some_iff.mp H
                      obtain ⟨t114, A180, H⟩ := H
                      replace H : (some t114) = some r := H
                      have A18 := Aside0.mk A180
                      clear A180
                      obtain rfl := Option.some.inj H
                      go_wp2_with (first | ((with_reducible refine gate_callee (f := 17) rfl ?_); refine goesL_ (some 78) rfl rfl Try.func17 (by kernel_rfl) rfl #[] rfl (by (try simp only [List.map_toArray, List.map_cons, List.map_nil]); first | done | rfl | (simp only [List.length_drop, List.length_take]; rfl)) ?_; (with_reducible refine (droverlaw08_lives.calls  t114 _ A18.out).mono ?_); rintro e w' ⟨rfl, ⟨nd, rfl⟩⟩; refine ⟨_, rfl, ?_⟩))
                      go_ret
                      exact ⟨by first | rfl | (simp; done) | (simp [*]; done), by repeat (first | exact Drawn0.refl _ | apply Drawn0.step)⟩

/-- THE ONE PURE STATEMENT of droverlaw08_ViewTurns: yours. -/
def droverlaw08_ViewTurns.Pure : Prop := ∀ (a0 : Int) (a1 : Int) (a2 : Int), (Lit.int .u64 a0).wf = true → (Lit.int .u64 a1).wf = true → (Lit.int .u64 a2).wf = true → ∃ k, droverlaw08_ViewTurns.f k a0 a1 a2 = some true
theorem droverlaw08_ViewTurns.walk (P : droverlaw08_ViewTurns.Pure) (a0 : Int) (a1 : Int) (a2 : Int) (w : World) (w0 : (Lit.int .u64 a0).wf = true) (w1 : (Lit.int .u64 a1).wf = true) (w2 : (Lit.int .u64 a2).wf = true) :
    Calls Try.prog 4 #[.int .u64 a0, .int .u64 a1, .int .u64 a2] w fun e w' => e = .returned (.bool true) ∧ Below w.heap.size w w' := by
  obtain ⟨k, h⟩ := P a0 a1 a2 w0 w1 w2
  refine (droverlaw08_ViewTurns.calls k a0 a1 a2 true w h).mono ?_
  rintro e w' ⟨rfl, hd⟩
  exact ⟨rfl, hd.below⟩

end Go.Proofs.Ytpfdldcejeilnaa.PViewTurns
