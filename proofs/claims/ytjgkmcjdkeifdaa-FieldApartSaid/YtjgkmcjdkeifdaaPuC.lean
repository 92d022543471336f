import Derived.Test.YtjgkmcjdkeifdaaPuB
set_option linter.unusedVariables false
set_option linter.unusedSimpArgs false
namespace Go.Proofs.Ytjgkmcjdkeifdaa
open Go Go.Fw

theorem uint1_l (k : Nat) : ∀ (v : Int) (b : List Int) {Q : List Int → Prop}, v.toNat ≤ k → 0 ≤ v → v < 18446744073709551616 → b.length + (uenc v).length ≤ 1099511627776 → Q (b ++ uenc v) → field_Uint_v1_l1 b v Q := by
  induction k with
  | zero =>
    intro v b Q hk h0 hv hl hQ
    rw [uenc_small (by omega)] at hl hQ
    refine field_Uint_v1_l1_step _ _ (Br_f (by omega) ⟨⟨rfl, by simpa using hl⟩, rfl, field_Uint_v1_ret.intro ?_⟩)
    rw [convK_u8, Int.emod_eq_of_lt h0 (by omega)]; exact hQ
  | succ k ih =>
    intro v b Q hk h0 hv hl hQ
    by_cases h : 128 ≤ v
    · rw [uenc_big h] at hl hQ
      have := uenc_pos (v / 128)
      simp only [List.length_cons] at hl
      refine field_Uint_v1_l1_step _ _ (Br_t h ⟨⟨rfl, by omega⟩, by decide, ?_⟩)
      rw [shr7, orb h0]
      exact ih _ _ (by omega) (by omega) (by omega) (by simp; omega) (by rw [List.append_assoc]; exact hQ)
    · rw [uenc_small h] at hl hQ
      refine field_Uint_v1_l1_step _ _ (Br_f (by omega) ⟨⟨rfl, by simpa using hl⟩, rfl, field_Uint_v1_ret.intro ?_⟩)
      rw [convK_u8, Int.emod_eq_of_lt h0 (by omega)]; exact hQ
theorem uint1_ev (b : List Int) (v : Int) {Q : List Int → Prop} (hb : b.length + 10 ≤ 1099511627776) (h0 : 0 ≤ v) (hv : v < 18446744073709551616) (h : Q (b ++ uenc v)) : field_Uint_v1 b v Q :=
  field_Uint_v1_step _ _ (field_Uint_v1_c1_step _ _ b (clone_ev b (by omega) rfl) (uint1_l _ v b (Nat.le_refl _) h0 hv (by have := uenc_len10 hv; omega) h))

theorem gu_enc (rest : List Int) : ∀ (k : Nat) (v acc : Int) (i : Nat), v.toNat ≤ k → 0 ≤ v → (0 < i → 0 < v) → i ≤ 9 → v * 2 ^ (7 * i) < 18446744073709551616 → gu acc i (uenc v ++ rest) = (acc + v * 2 ^ (7 * i), ((i + (uenc v).length : Nat) : Int)) := by
  intro k
  induction k with
  | zero =>
    intro v acc i hk h0 hp hi hb
    have hv : v = 0 := by omega
    subst hv
    rw [uenc_small (by decide)]
    have : ¬ 0 < i := fun h => absurd (hp h) (by decide)
    have hi0 : i = 0 := by omega
    subst hi0
    simp [gu]
  | succ k ih =>
    intro v acc i hk h0 hp hi hb
    by_cases h : 128 ≤ v
    · have h9 : i ≠ 9 := by
        rintro rfl
        have : (2 : Int) ^ (7 * 9) = 9223372036854775808 := by decide
        rw [this] at hb; omega
      rw [uenc_big h, List.cons_append, gu, if_neg (by omega), if_neg (by omega)]
      have e1 : (v % 128 + 128) % 128 = v % 128 := by omega
      have e2 : (2 : Int) ^ (7 * (i + 1)) = 128 * 2 ^ (7 * i) := by
        rw [show 7 * (i + 1) = 7 + 7 * i from by omega, Int.pow_add]; rfl
      have hP : (0 : Int) < 2 ^ (7 * i) := Int.pow_pos (by decide)
      have e3 : v / 128 * (2 : Int) ^ (7 * (i + 1)) = (v - v % 128) * 2 ^ (7 * i) := by
        rw [e2, ← Int.mul_assoc]; congr 1; omega
      have hm : (0 : Int) ≤ v % 128 * 2 ^ (7 * i) := Int.mul_nonneg (by omega) (by omega)
      rw [Int.sub_mul] at e3
      rw [e1, ih (v / 128) _ (i + 1) (by omega) (by omega) (by omega) (by omega) (by rw [e3]; omega), e3, List.length_cons]
      exact Prod.ext (show (_ : Int) = _ by omega) (show (_ : Int) = _ by omega)
    · rw [uenc_small h, List.cons_append, List.nil_append, gu, if_neg, if_pos (by omega)]
      · simp
      · rintro (⟨rfl, h1⟩ | ⟨h1, h2⟩)
        · have : (2 : Int) ^ (7 * 9) = 9223372036854775808 := by decide
          rw [this] at hb; omega
        · have := hp h2; omega
theorem gu_all (v : Int) (rest : List Int) (h0 : 0 ≤ v) (h : v < 18446744073709551616) : gu 0 0 (uenc v ++ rest) = (v, ((uenc v).length : Int)) := by
  rw [gu_enc rest v.toNat v 0 0 (Nat.le_refl _) h0 (by omega) (by decide) (by omega)]
  simp
theorem gu_part : ∀ (k : Nat) (v acc : Int) (i j : Nat), v.toNat ≤ k → j < (uenc v).length → gu acc i ((uenc v).take j) = (0, 0) := by
  intro k
  induction k with
  | zero =>
    intro v acc i j hk hj
    rw [uenc_small (by omega)] at hj ⊢
    have : j = 0 := by simpa using hj
    subst this; rfl
  | succ k ih =>
    intro v acc i j hk hj
    by_cases h : 128 ≤ v
    · rw [uenc_big h] at hj ⊢
      cases j with
      | zero => rfl
      | succ j =>
        rw [List.take_succ_cons, gu]
        split
        · rfl
        · rw [if_neg (by omega)]
          exact ih (v / 128) _ _ j (by omega) (by simpa using hj)
    · rw [uenc_small h] at hj ⊢
      have : j = 0 := by simpa using hj
      subst this; rfl

theorem numbers_l (v : Int) (h0 : 0 ≤ v) (hv : v < 18446744073709551616) : ∀ (k i : Nat), (uenc v).length - i ≤ k → i ≤ (uenc v).length → law01_FieldNumbers_l5 (uenc v) (i : Int) (fun x => x = true) := by
  intro k
  have h10 := uenc_len10 hv
  have fin : law01_FieldNumbers_c5 (fun x => x = true) := law01_FieldNumbers_c5_step true (lives_ev rfl) (law01_FieldNumbers_ret.intro rfl)
  induction k with
  | zero => intro i hk hi; exact law01_FieldNumbers_l5_step _ _ (Br_f (by omega) fin)
  | succ k ih =>
    intro i hk hi
    by_cases hlt : i < (uenc v).length
    · refine law01_FieldNumbers_l5_step _ _ (Br_t (by omega) ⟨⟨by omega, by omega⟩, law01_FieldNumbers_c4_step _ _ (0, 0) ?_ (Br_bf rfl (law01_FieldNumbers_k6_step _ _ _ (Br_bf rfl ?_)))⟩)
      · rw [Int.toNat_natCast]
        exact getUint_ev _ (fun x hx => uenc_isB _ v (Nat.le_refl _) h0 x (List.mem_of_mem_take hx)) (by simp; omega) (gu_part _ v 0 0 i (Nat.le_refl _) hlt)
      · rw [addK_i64 (by omega)]
        exact ih (i + 1) (by omega) (by omega)
    · exact law01_FieldNumbers_l5_step _ _ (Br_f (by omega) fin)

theorem law01_FieldNumbers_true (v n : Int) (rest : List Int) (wv : CT.wf (.int .u64) v) (wn : CT.wf (.int .i64) n) (wr : CT.wf (.sl (.one (.int .u8))) rest) : law01_FieldNumbers v n rest (fun x => x = true) := by
  obtain ⟨hr, hl⟩ := isB_of_wf wr
  have hv : 0 ≤ v ∧ v ≤ 18446744073709551615 := wv
  have hn : -9223372036854775808 ≤ n ∧ n ≤ 9223372036854775807 := wn
  have h10 : (uenc v).length ≤ 10 := uenc_len10 (by omega)
  have h1 := uenc_pos v
  have hvB := uenc_isB _ v (Nat.le_refl _) hv.1
  refine law01_FieldNumbers_step _ _ _ (law01_FieldNumbers_c1_step _ _ _ (uenc v) (uint1_ev [] v (by decide) hv.1 (by omega) rfl) ?_)
  by_cases hlen : (rest.length : Int) > 2000
  · exact Br_t hlen (law01_FieldNumbers_k1_step _ _ _ _ _ (Br_bt rfl (Br_t hlen (law01_FieldNumbers_c2_step true (lives_ev rfl) (law01_FieldNumbers_ret.intro rfl)))))
  · refine Br_f hlen (Br_f (by omega) (law01_FieldNumbers_k1_step _ _ _ _ _ (Br_bf (decide_eq_false (by omega)) (law01_FieldNumbers_k2_step _ _ _ _ ⟨by omega, ⟨rfl, by omega⟩, rfl, ?_⟩))))
    refine law01_FieldNumbers_c3_step _ _ _ _ (v, ((uenc v).length : Int)) (getUint_ev _ ?_ (by simp; omega) (gu_all v rest hv.1 (by omega))) ?_
    · intro x hx
      rcases List.mem_append.1 hx with hx | hx
      · exact hvB x hx
      · exact hr x hx
    refine Br_bf (bne_self_eq_false v) (Br_bf (bne_self_eq_false _) ?_)
    refine law01_FieldNumbers_c6_step _ _ _ _ (zig_ev n hn.1 hn.2 rfl) (law01_FieldNumbers_c7_step _ _ _ _ n (zag_ev _ (zigV_range hn.1 hn.2).1 (zigV_range hn.1 hn.2).2 (zag_zig n)) (Br_bf (bne_self_eq_false n) ?_))
    have hz := zagV_range hv.1 (show v < 18446744073709551616 by omega)
    refine law01_FieldNumbers_c8_step _ _ _ (zag_ev v hv.1 (by omega) rfl) (law01_FieldNumbers_c9_step _ _ _ v (zig_ev _ hz.1 hz.2 (zig_zag v hv.1)) ?_)
    exact law01_FieldNumbers_k3_step _ _ (Br_bf (bne_self_eq_false v) (law01_FieldNumbers_k4_step _ (numbers_l v hv.1 (by omega) _ 0 (Nat.le_refl _) (by omega))))

end Go.Proofs.Ytjgkmcjdkeifdaa
