import Derived.Test.YtpfdldcejeilnaaVwB
set_option linter.unusedVariables false
set_option linter.unusedSimpArgs false
namespace Go.Proofs.Ytpfdldcejeilnaa
open Go Go.Fw

/-! ### Votes as bits, of which there are few -/

def pop (x : Nat) : Nat := x % 2 + x / 2 % 2 + x / 4 % 2 + x / 8 % 2 + x / 16 % 2 + x / 32 % 2
theorem count64 : ∀ x : Fin 64, math_bits_OnesCount64 ((x.val : Nat) : Int) (fun r => r = ((pop x.val : Nat) : Int)) := by
  intro x
  refine math_bits_OnesCount64_step _ ⟨by decide, by decide, by decide, by decide, by decide, by decide, math_bits_OnesCount64_ret.intro ?_⟩
  revert x
  decide +kernel
theorem count_ev (k : Int) (x : Nat) (hx : x < 64) {Q : Int → Prop} (hQ : Q ((pop x : Nat) : Int)) : view_Votes_Count (k, (x : Int)) Q :=
  view_Votes_Count_step _ (view_Votes_Count_c1_step _ _ (math_bits_OnesCount_step _ (math_bits_OnesCount_c1_step _ _ (count64 ⟨x, hx⟩) (math_bits_OnesCount_ret.intro rfl))) (view_Votes_Count_ret.intro hQ))
theorem quorum_ev (k : Int) (hk : 2 ≤ k ∧ k ≤ 5) {Q : Int → Prop} (hQ : Q (k / 2 + 1)) : view_Quorum k Q := by
  refine view_Quorum_step _ (view_Quorum_c1_step _ true (nodes_ev k (decide_eq_true hk)) (Br_bf rfl ⟨by decide, view_Quorum_ret.intro ?_⟩))
  have : k = 2 ∨ k = 3 ∨ k = 4 ∨ k = 5 := by omega
  rcases this with rfl | rfl | rfl | rfl <;> exact hQ
theorem faults_ev (k : Int) (hk : 2 ≤ k ∧ k ≤ 5) {Q : Int → Prop} (hQ : Q ((k - 1) / 2)) : view_Faults k Q := by
  refine view_Faults_step _ (view_Faults_c1_step _ true (nodes_ev k (decide_eq_true hk)) (Br_bf rfl ⟨by decide, view_Faults_ret.intro ?_⟩))
  have : k = 2 ∨ k = 3 ∨ k = 4 ∨ k = 5 := by omega
  rcases this with rfl | rfl | rfl | rfl <;> exact hQ
theorem enough_ev (k : Int) (hk : 2 ≤ k ∧ k ≤ 5) (x : Nat) (hx : x < 64) {Q : Bool → Prop} (hQ : Q (decide (((pop x : Nat) : Int) ≥ k / 2 + 1))) : view_Votes_Enough (k, (x : Int)) Q :=
  view_Votes_Enough_step _ (Br_t (show k > 0 by omega) (view_Votes_Enough_c1_step _ _ (count_ev k x hx rfl) (view_Votes_Enough_c2_step _ _ _ (quorum_ev k hk rfl) (view_Votes_Enough_ret.intro hQ))))

def bit (x i : Nat) : Bool := decide (andK .u64 (shrK .u64 (x : Int) (i : Int)) 1 > 0)
theorem bit_out : ∀ (i : Fin 6) (x : Fin 64), x.val < 2 ^ i.val → bit x.val i.val = false := by decide +kernel
theorem bit_in : ∀ (i : Fin 6) (x : Fin 64), x.val < 2 ^ i.val → bit (x.val + 2 ^ i.val) i.val = true := by decide +kernel
theorem set_eq : ∀ (i : Fin 6) (x : Fin 64), x.val < 2 ^ i.val → orK .u64 ((x.val : Nat) : Int) (shlK .u64 1 ((i.val : Nat) : Int)) = ((x.val + 2 ^ i.val : Nat) : Int) := by decide +kernel
theorem pow_le {i : Nat} (h : i ≤ 5) : 2 ^ i ≤ 32 := Nat.pow_le_pow_right (by decide : 0 < 2) h
theorem has_ev (k : Int) (x i : Nat) (hi : 1 ≤ i) (hk : (i : Int) ≤ k) {Q : Bool → Prop} (hQ : Q (bit x i)) : view_Votes_Has (k, (x : Int)) (i : Int) Q :=
  view_Votes_Has_step _ _ (Br_t (by omega) (Br_t hk ⟨by omega, view_Votes_Has_ret.intro hQ⟩))
theorem add_ev (k : Int) (x i : Nat) (hi : 1 ≤ i) (h5 : i ≤ 5) (hk : (i : Int) ≤ k) (hx : x < 2 ^ i) {Q : Bool × eR3.T → Prop} (hQ : Q (true, (k, ((x + 2 ^ i : Nat) : Int)))) : view_Votes_Add (i : Int) (k, (x : Int)) Q := by
  have hp := pow_le h5
  refine view_Votes_Add_step _ _ (Br_f (by omega) (Br_f (show ¬ (i : Int) > k by omega) (view_Votes_Add_c1_step _ _ false (has_ev k x i hi hk (bit_out ⟨i, by omega⟩ ⟨x, by omega⟩ hx)) (view_Votes_Add_k1_step _ _ _ (Br_bf rfl (view_Votes_Add_k2_step _ _ ⟨by omega, view_Votes_Add_ret.intro ?_⟩))))))
  show Q (true, (k, orK .u64 (x : Int) (shlK .u64 1 (i : Int))))
  rw [set_eq ⟨i, by omega⟩ ⟨x, by omega⟩ hx]; exact hQ
theorem new_ev (k : Int) (hk : 2 ≤ k ∧ k ≤ 5) {Q : Option eR3.T → Prop} (hQ : Q (some (k, 0))) : view_NewVotes k Q :=
  view_NewVotes_step _ (view_NewVotes_c1_step _ true (nodes_ev k (decide_eq_true hk)) (Br_bf rfl (view_NewVotes_ret.intro hQ)))

/-- Two sets that are enough have one in common. -/
theorem meet : ∀ (k : Fin 6) (x y : Fin 64), 2 ≤ k.val → x.val < 2 ^ (k.val + 1) → y.val < 2 ^ (k.val + 1) → x.val % 2 = 0 → y.val % 2 = 0 → k.val / 2 + 1 ≤ pop x.val → k.val / 2 + 1 ≤ pop y.val → x.val &&& y.val ≠ 0 := by decide +kernel
theorem and_grow : ∀ (i : Fin 6) (x y : Fin 64), x.val < 2 ^ i.val → y.val < 2 ^ i.val → (x.val + 2 ^ i.val) &&& (y.val + 2 ^ i.val) ≠ 0 ∧ (x.val + 2 ^ i.val) &&& y.val = x.val &&& y.val ∧ x.val &&& (y.val + 2 ^ i.val) = x.val &&& y.val := by decide +kernel

theorem meets_end (n0 : Int) (k : Nat) (hn : addK .i64 2 (convK .i64 (remK n0 4)) = (k : Int)) (hk : 2 ≤ k ∧ k ≤ 5) (x y : Nat) (hx : x < 2 ^ (k + 1)) (hy : y < 2 ^ (k + 1)) (ex : x % 2 = 0) (ey : y % 2 = 0) (c : Bool) (hc : c = decide (x &&& y ≠ 0)) :
    law08_ViewMeets_c8 n0 c (k : Int) (x : Int) (k : Int) (y : Int) (fun r => r = true) := by
  have hp : 2 ^ (k + 1) ≤ 64 := Nat.pow_le_pow_right (n := 2) (by decide) (show k + 1 ≤ 6 by omega)
  have hk' : (2 : Int) ≤ k ∧ (k : Int) ≤ 5 := by omega
  have fin : law08_ViewMeets_k5 n0 false (k : Int) (x : Int) (fun r => r = true) := by
    refine law08_ViewMeets_k5_step _ _ _ _ (Br_bf rfl (law08_ViewMeets_k6_step _ _ _ (law08_ViewMeets_c10_step _ _ _ (((k : Int) - 1) / 2) (by rw [hn]; exact faults_ev (k : Int) hk' rfl) (law08_ViewMeets_c11_step _ _ _ _ ((k : Int) / 2 + 1) (by rw [hn]; exact quorum_ev (k : Int) hk' rfl) ?_))))
    rw [hn]
    refine Br_t ?_ (law08_ViewMeets_c12_step _ _ _ _ (enough_ev (k : Int) hk' x (by omega) rfl) (law08_ViewMeets_c13_step _ _ _ _ _ (count_ev (k : Int) x (by omega) rfl) (law08_ViewMeets_c14_step _ _ _ ((k : Int) / 2 + 1) (by rw [hn]; exact quorum_ev (k : Int) hk' rfl) ?_)))
    · rw [subK_i64 (by omega)]; omega
    · exact Br_bt (beq_self_eq_true _) (law08_ViewMeets_c15_step true (lives_ev rfl) (law08_ViewMeets_ret.intro rfl))
  refine law08_ViewMeets_c8_step _ _ _ _ _ _ _ (enough_ev (k : Int) hk' x (by omega) rfl) ?_
  by_cases h1 : ((pop x : Nat) : Int) ≥ (k : Int) / 2 + 1
  · rw [decide_eq_true h1]
    refine Br_bt rfl (law08_ViewMeets_c9_step _ _ _ _ _ _ _ (enough_ev (k : Int) hk' y (by omega) rfl) ?_)
    by_cases h2 : ((pop y : Nat) : Int) ≥ (k : Int) / 2 + 1
    · rw [decide_eq_true h2]
      refine Br_bt rfl ?_
      have hm := meet ⟨k, by omega⟩ ⟨x, by omega⟩ ⟨y, by omega⟩ hk.1 hx hy ex ey (show k / 2 + 1 ≤ pop x by omega) (show k / 2 + 1 ≤ pop y by omega)
      rw [hc, decide_eq_true hm]; exact fin
    · rw [decide_eq_false h2]; exact Br_bf rfl fin
  · rw [decide_eq_false h1]; exact Br_bf rfl fin

theorem meets_l (a b n0 : Int) (k : Nat) (hn : addK .i64 2 (convK .i64 (remK n0 4)) = (k : Int)) (hk : 2 ≤ k ∧ k ≤ 5) : ∀ (m i x y : Nat) (c : Bool), k + 1 - i ≤ m → 1 ≤ i → i ≤ k + 1 → x < 2 ^ i → y < 2 ^ i → x % 2 = 0 → y % 2 = 0 → c = decide (x &&& y ≠ 0) →
    law08_ViewMeets_l2 a b n0 c (i : Int) (k : Int) (x : Int) (k : Int) (y : Int) (fun r => r = true) := by
  intro m
  induction m with
  | zero =>
    intro i x y c hm h1 hi hx hy ex ey hc
    have : i = k + 1 := by omega
    subst this
    exact law08_ViewMeets_l2_step _ _ _ _ _ _ _ _ _ (Br_f (by rw [hn]; omega) (meets_end n0 k hn hk x y hx hy ex ey c hc))
  | succ m ih =>
    intro i x y c hm h1 hi hx hy ex ey hc
    by_cases hik : i ≤ k
    · have h5 : i ≤ 5 := by omega
      have hp := pow_le h5
      have hp2 : 2 ^ (i + 1) = 2 * 2 ^ i := by rw [Nat.pow_succ]; omega
      have hev : 2 ^ i % 2 = 0 := by
        obtain ⟨j, rfl⟩ : ∃ j, i = j + 1 := ⟨i - 1, by omega⟩
        rw [Nat.pow_succ]; omega
      have hcv : 0 ≤ convK .u64 (i : Int) := by rw [convK_u64 (by omega)]; omega
      have nx : addK .i64 (i : Int) 1 = ((i + 1 : Nat) : Int) := by rw [addK_i64 (by omega)]; omega
      obtain ⟨g1, g2, g3⟩ := and_grow ⟨i, by omega⟩ ⟨x, by omega⟩ ⟨y, by omega⟩ hx hy
      simp only at g1 g2 g3
      have bx0 := bit_out ⟨i, by omega⟩ ⟨x, by omega⟩ hx
      have bx1 := bit_in ⟨i, by omega⟩ ⟨x, by omega⟩ hx
      have by0 := bit_out ⟨i, by omega⟩ ⟨y, by omega⟩ hy
      have by1 := bit_in ⟨i, by omega⟩ ⟨y, by omega⟩ hy
      simp only at bx0 bx1 by0 by1
      have stop : ∀ x' y' : Nat, x' < 2 ^ (i + 1) → y' < 2 ^ (i + 1) → x' % 2 = 0 → y' % 2 = 0 → decide (x' &&& y' ≠ 0) = (c || bit x' i && bit y' i) → law08_ViewMeets_k4 a b n0 c (i : Int) (k : Int) (x' : Int) (k : Int) (y' : Int) (fun r => r = true) := by
        intro x' y' hx' hy' ex' ey' hc'
        cases c with
        | true =>
          refine law08_ViewMeets_k4_step _ _ _ _ _ _ _ _ _ (Br_bt rfl ?_)
          rw [nx]; exact ih (i + 1) x' y' true (by omega) (by omega) (by omega) hx' hy' ex' ey' (by rw [hc']; rfl)
        | false =>
          refine law08_ViewMeets_k4_step _ _ _ _ _ _ _ _ _ (Br_bf rfl (law08_ViewMeets_c6_step _ _ _ _ _ _ _ _ _ (has_ev k x' i h1 (by omega) rfl) ?_))
          cases hbx : bit x' i with
          | true =>
            rw [hbx] at hc'
            refine Br_bt rfl (law08_ViewMeets_c7_step _ _ _ _ _ _ _ _ _ (has_ev k y' i h1 (by omega) rfl) ?_)
            rw [nx]; exact ih (i + 1) x' y' _ (by omega) (by omega) (by omega) hx' hy' ex' ey' (by rw [hc']; rfl)
          | false =>
            rw [hbx] at hc'
            refine Br_bf rfl ?_
            rw [nx]; exact ih (i + 1) x' y' _ (by omega) (by omega) (by omega) hx' hy' ex' ey' (by rw [hc']; rfl)
      have second : ∀ x' : Nat, x' < 2 ^ (i + 1) → x' % 2 = 0 → decide (x' &&& y ≠ 0) = (c || bit x' i && bit y i) → decide (x' &&& (y + 2 ^ i) ≠ 0) = (c || bit x' i && bit (y + 2 ^ i) i) → law08_ViewMeets_k3 a b n0 c (i : Int) (k : Int) (x' : Int) (k : Int) (y : Int) (fun r => r = true) := by
        intro x' hx' ex' h0 h1'
        refine law08_ViewMeets_k3_step _ _ _ _ _ _ _ _ _ ⟨hcv, ?_⟩
        by_cases hb : andK .u64 (shrK .u64 b (convK .u64 (i : Int))) 1 = 1
        · refine Br_et hb (law08_ViewMeets_c5_step _ _ _ _ _ _ _ _ _ _ (add_ev k y i h1 h5 (by omega) hy rfl) ?_)
          exact stop x' (y + 2 ^ i) hx' (by omega) ex' (by omega) h1'
        · exact Br_ef hb (stop x' y hx' (by omega) ex' ey h0)
      refine law08_ViewMeets_l2_step _ _ _ _ _ _ _ _ _ (Br_t (by rw [hn]; omega) ⟨hcv, ?_⟩)
      by_cases ha : andK .u64 (shrK .u64 a (convK .u64 (i : Int))) 1 = 1
      · refine Br_et ha (law08_ViewMeets_c4_step _ _ _ _ _ _ _ _ _ _ (add_ev k x i h1 h5 (by omega) hx rfl) ?_)
        refine second (x + 2 ^ i) (by omega) (by omega) ?_ ?_
        · rw [g2, by0, hc, Bool.and_false, Bool.or_false]
        · rw [bx1, by1, decide_eq_true g1]; simp
      · refine Br_ef ha (second x (by omega) ex ?_ ?_)
        · rw [bx0, hc, Bool.false_and, Bool.or_false]
        · rw [g3, bx0, hc, Bool.false_and, Bool.or_false]
    · have : i = k + 1 := by omega
      subst this
      exact law08_ViewMeets_l2_step _ _ _ _ _ _ _ _ _ (Br_f (by rw [hn]; omega) (meets_end n0 k hn hk x y hx hy ex ey c hc))

theorem law08_ViewMeets_true (n a b : Int) (wn : CT.wf (.int .u64) n) (wa : CT.wf (.int .u64) a) (wb : CT.wf (.int .u64) b) : law08_ViewMeets n a b (fun x => x = true) := by
  have hn : 0 ≤ n ∧ n ≤ 18446744073709551615 := wn
  obtain ⟨k, hk, hk2⟩ : ∃ k : Nat, addK .i64 2 (convK .i64 (remK n 4)) = (k : Int) ∧ 2 ≤ k ∧ k ≤ 5 := by
    refine ⟨(2 + n % 4).toNat, ?_, by omega, by omega⟩
    rw [remK_nn hn.1, convK_i64 (by omega), addK_i64 (by omega)]; omega
  have hk' : (2 : Int) ≤ k ∧ (k : Int) ≤ 5 := by omega
  refine law08_ViewMeets_step _ _ _ ⟨by decide, law08_ViewMeets_c1_step_some _ _ _ ((k : Int), 0) (by rw [hk]; exact new_ev k hk' rfl) (law08_ViewMeets_c3_step_some _ _ _ _ ((k : Int), 0) (by rw [hk]; exact new_ev k hk' rfl) (law08_ViewMeets_k1_step _ _ _ _ _ ?_))⟩
  exact meets_l a b n k hk hk2 (k + 1) 1 0 0 false (by omega) (by omega) (by omega) (by decide) (by decide) (by decide) (by decide) (by decide)

end Go.Proofs.Ytpfdldcejeilnaa
