import Derived.Test.YtjgkmcjdkeifdaaCodes
import Derived.Test.YtjgkmcjdkeifdaaFxJ
set_option linter.unusedVariables false
set_option linter.unusedSimpArgs false
namespace Go.Proofs.Ytjgkmcjdkeifdaa
open Go Go.Fw

/-! ### Numbers in bytes -/

def uenc (v : Int) : List Int := if h : 128 ≤ v then (v % 128 + 128) :: uenc (v / 128) else [v]
termination_by v.toNat
decreasing_by omega

theorem uenc_big {v : Int} (h : 128 ≤ v) : uenc v = (v % 128 + 128) :: uenc (v / 128) := by rw [uenc, dif_pos h]
theorem uenc_small {v : Int} (h : ¬ 128 ≤ v) : uenc v = [v] := by rw [uenc, dif_neg h]
theorem uenc_len : ∀ (n : Nat) (v : Int), v < 128 ^ (n + 1) → (uenc v).length ≤ n + 1
  | 0, v, h => by rw [uenc_small (by simpa using h)]; simp
  | n + 1, v, h => by
    by_cases hv : 128 ≤ v
    · rw [uenc_big hv, List.length_cons]
      have := uenc_len n (v / 128) (by rw [Int.pow_succ] at h; omega)
      omega
    · rw [uenc_small hv]; simp
theorem uenc_len10 {v : Int} (h : v < 18446744073709551616) : (uenc v).length ≤ 10 := uenc_len 9 v (by omega)
theorem uenc_pos (v : Int) : 1 ≤ (uenc v).length := by
  by_cases hv : 128 ≤ v
  · rw [uenc_big hv]; simp
  · rw [uenc_small hv]; simp
theorem uenc_isB : ∀ (k : Nat) (v : Int), v.toNat ≤ k → 0 ≤ v → IsB (uenc v) := by
  intro k
  induction k with
  | zero => intro v h h0; rw [uenc_small (by omega)]; intro x hx; simp at hx; omega
  | succ k ih =>
    intro v h h0
    by_cases hv : 128 ≤ v
    · rw [uenc_big hv]
      intro x hx
      rcases List.mem_cons.1 hx with rfl | hx
      · omega
      · exact ih (v / 128) (by omega) (by omega) x hx
    · rw [uenc_small hv]; intro x hx; simp at hx; omega

theorem or128 : ∀ n : Nat, n < 256 → n ||| 128 = n % 128 + 128 := by decide +kernel
theorem orb {v : Int} (h0 : 0 ≤ v) : orK .u8 (convK .u8 v) 128 = v % 128 + 128 := by
  rw [convK_u8, orK_nat rfl ⟨by omega, by show v % 256 < 2 ^ 8; omega⟩ ⟨by decide, by decide⟩]
  have : (128 : Int).toNat = 128 := rfl
  rw [this, or128 _ (by omega)]
  omega
theorem shr7 {v : Int} : shrK .u64 v 7 = v / 128 := shrK_eq .u64 v 7 (by decide)

theorem clone_ev (s : List Int) {Q : List Int → Prop} (hs : s.length ≤ 1099511627776) (h : Q s) : slices_Clone_byte_byte s Q := by
  refine slices_Clone_byte_byte_step _ (fun nb hnb => ?_)
  cases nb with
  | true => have := hnb rfl; subst this; exact slices_Clone_byte_byte_ret.intro h
  | false => exact ⟨by omega, slices_Clone_byte_byte_ret.intro h⟩

theorem uint_l (k : Nat) : ∀ (v : Int) (b : List Int) {Q : List Int → Prop}, v.toNat ≤ k → 0 ≤ v → v < 18446744073709551616 → b.length + (uenc v).length ≤ 1099511627776 → Q (b ++ uenc v) → field_Uint_l1 b v Q := by
  induction k with
  | zero =>
    intro v b Q hk h0 hv hl hQ
    rw [uenc_small (by omega)] at hl hQ
    refine field_Uint_l1_step _ _ (Br_f (by omega) ⟨⟨rfl, by simpa using hl⟩, field_Uint_ret.intro ?_⟩)
    rw [convK_u8, Int.emod_eq_of_lt h0 (by omega)]; exact hQ
  | succ k ih =>
    intro v b Q hk h0 hv hl hQ
    by_cases h : 128 ≤ v
    · rw [uenc_big h] at hl hQ
      have := uenc_pos (v / 128)
      simp only [List.length_cons] at hl
      refine field_Uint_l1_step _ _ (Br_t h ⟨⟨rfl, by omega⟩, by decide, ?_⟩)
      rw [shr7, orb h0]
      exact ih _ _ (by omega) (by omega) (by omega) (by simp; omega) (by rw [List.append_assoc]; exact hQ)
    · rw [uenc_small h] at hl hQ
      refine field_Uint_l1_step _ _ (Br_f (by omega) ⟨⟨rfl, by simpa using hl⟩, field_Uint_ret.intro ?_⟩)
      rw [convK_u8, Int.emod_eq_of_lt h0 (by omega)]; exact hQ
theorem uint_ev (b : List Int) (v : Int) {Q : List Int → Prop} (hb : b.length + 10 ≤ 1099511627776) (h0 : 0 ≤ v) (hv : v < 18446744073709551616) (h : Q (b ++ uenc v)) : field_Uint b v Q :=
  field_Uint_step _ _ (field_Uint_c1_step _ _ b (clone_ev b (by omega) rfl) (uint_l _ v b (Nat.le_refl _) h0 hv (by have := uenc_len10 hv; omega) h))

theorem ruint_l (k : Nat) : ∀ (v : Int) (b : List Int) {Q : List Int → Prop}, v.toNat ≤ k → 0 ≤ v → v < 18446744073709551616 → b.length + (uenc v).length ≤ 1099511627776 → Q (b ++ uenc v) → ref01_Uint_l1 v b Q := by
  induction k with
  | zero =>
    intro v b Q hk h0 hv hl hQ
    rw [uenc_small (by omega)] at hl hQ
    refine ref01_Uint_l1_step _ _ ⟨by decide, by decide, ?_⟩
    rw [quoK_u64 ⟨h0, hv⟩ (by decide), remK_nn h0]
    refine Br_et (by omega) ⟨⟨rfl, by simpa using hl⟩, ref01_Uint_ret.intro ?_⟩
    rw [convK_u8, show v % 128 % 256 = v from by omega]; exact hQ
  | succ k ih =>
    intro v b Q hk h0 hv hl hQ
    refine ref01_Uint_l1_step _ _ ⟨by decide, by decide, ?_⟩
    rw [quoK_u64 ⟨h0, hv⟩ (by decide), remK_nn h0]
    by_cases h : 128 ≤ v
    · rw [uenc_big h] at hl hQ
      have := uenc_pos (v / 128)
      simp only [List.length_cons] at hl
      refine Br_ef (by omega) ⟨⟨rfl, by omega⟩, ?_⟩
      rw [convK_u8, addK_u8, show (v % 128 % 256 + 128) % 256 = v % 128 + 128 from by omega]
      exact ih _ _ (by omega) (by omega) (by omega) (by simp; omega) (by rw [List.append_assoc]; exact hQ)
    · rw [uenc_small h] at hl hQ
      refine Br_et (by omega) ⟨⟨rfl, by simpa using hl⟩, ref01_Uint_ret.intro ?_⟩
      rw [convK_u8, show v % 128 % 256 = v from by omega]; exact hQ
theorem ruint_ev (b : List Int) (v : Int) {Q : List Int → Prop} (hb : b.length + 10 ≤ 1099511627776) (h0 : 0 ≤ v) (hv : v < 18446744073709551616) (h : Q (b ++ uenc v)) : ref01_Uint b v Q :=
  ref01_Uint_step _ _ ⟨by omega, ruint_l _ v b (Nat.le_refl _) h0 hv (by have := uenc_len10 hv; omega) h⟩

/-! ### The number that bytes begin with -/

/-- acc and i: what was read. -/
def gu (acc : Int) (i : Nat) : List Int → Int × Int
  | [] => (0, 0)
  | x :: r => if (i = 9 ∧ 1 < x) ∨ (x = 0 ∧ 0 < i) then (0, 0) else if x < 128 then (acc + x * 2 ^ (7 * i), i + 1) else gu (acc + (x % 128) * 2 ^ (7 * i)) (i + 1) r

theorem and127 : ∀ n : Nat, n < 256 → n &&& 127 = n % 128 := by decide +kernel
theorem low7 {x : Int} (h : 0 ≤ x ∧ x < 256) : andK .u8 x 127 = x % 128 := by
  rw [andK_nat rfl ⟨h.1, by show x < 2 ^ 8; omega⟩ ⟨by decide, by decide⟩]
  have : (127 : Int).toNat = 127 := rfl
  rw [this, and127 _ (by omega)]; omega
theorem seven {i : Nat} (h : i ≤ 9) : mulK .i64 7 (i : Int) = ((7 * i : Nat) : Int) := by
  rw [mulK_i64 (by omega)]; omega
theorem pow_cases {P : Nat → Prop} {i : Nat} (h : i ≤ 9) (h0 : P 0) (h1 : P 1) (h2 : P 2) (h3 : P 3) (h4 : P 4) (h5 : P 5) (h6 : P 6) (h7 : P 7) (h8 : P 8) (h9 : P 9) : P i := by
  have : i = 0 ∨ i = 1 ∨ i = 2 ∨ i = 3 ∨ i = 4 ∨ i = 5 ∨ i = 6 ∨ i = 7 ∨ i = 8 ∨ i = 9 := by omega
  rcases this with rfl | rfl | rfl | rfl | rfl | rfl | rfl | rfl | rfl | rfl <;> assumption
theorem grow {acc x : Int} {i : Nat} (hi : i ≤ 9) (h0 : 0 ≤ acc) (ha : acc < 2 ^ (7 * i)) (hx : 0 ≤ x ∧ x < 128) (h9 : i = 9 → x ≤ 1) :
    0 ≤ x * 2 ^ (7 * i) ∧ acc + x * 2 ^ (7 * i) < 2 ^ (7 * (i + 1)) ∧ acc + x * 2 ^ (7 * i) < 18446744073709551616 := by
  revert ha h9
  refine pow_cases (P := fun i => acc < 2 ^ (7 * i) → (i = 9 → x ≤ 1) → 0 ≤ x * 2 ^ (7 * i) ∧ acc + x * 2 ^ (7 * i) < 2 ^ (7 * (i + 1)) ∧ acc + x * 2 ^ (7 * i) < 18446744073709551616) hi ?_ ?_ ?_ ?_ ?_ ?_ ?_ ?_ ?_ ?_ <;> intro ha h9 <;> simp only [Nat.reduceMul, Nat.reduceAdd, Int.reducePow, Nat.mul_zero, Int.pow_zero] at ha ⊢ <;> first | omega | (have := h9 rfl; omega)
theorem shor {acc x : Int} {i : Nat} (hi : i ≤ 9) (h0 : 0 ≤ acc) (ha : acc < 2 ^ (7 * i)) (hx : 0 ≤ x ∧ x < 128) (h9 : i = 9 → x ≤ 1) :
    orK .u64 acc (shlK .u64 (convK .u64 x) (mulK .i64 7 (i : Int))) = acc + x * 2 ^ (7 * i) := by
  obtain ⟨g0, g1, g2⟩ := grow hi h0 ha hx h9
  rw [seven hi, convK_u64 ⟨hx.1, by omega⟩, shlK_u64 _ _ (by omega), Int.emod_eq_of_lt g0 (by omega)]
  rw [orK_nat rfl ⟨h0, by show acc < 2 ^ 64; omega⟩ ⟨g0, by show x * 2 ^ (7 * i) < 2 ^ 64; omega⟩]
  have hc : x * 2 ^ (7 * i) = ((x.toNat * 2 ^ (7 * i) : Nat) : Int) := by
    rw [Int.natCast_mul, Int.toNat_of_nonneg hx.1]; simp
  have e2 : (x * 2 ^ (7 * i)).toNat = x.toNat * 2 ^ (7 * i) := by rw [hc]; rfl
  rw [e2, or_add _ _ _ (toNat_lt_pow ⟨h0, ha⟩), Int.natCast_add, ← hc, Int.toNat_of_nonneg h0]

theorem rdI_get {b : List Int} {i : Nat} (h : i < b.length) : rdI b i = b[i] := by simp [rdI, h]

theorem getUint_l (b : List Int) (hb : IsB b) (hl : b.length ≤ 1000000) : ∀ (k : Nat) (acc : Int) (i : Nat) {Q : Int × Int → Prop}, b.length - i ≤ k → i ≤ 9 → i ≤ b.length → 0 ≤ acc → acc < 2 ^ (7 * i) → Q (gu acc i (b.drop i)) → field_GetUint_l1 acc b (i : Int) Q := by
  intro k
  induction k with
  | zero =>
    intro acc i Q hk hi hil h0 ha hQ
    rw [List.drop_of_length_le (by omega)] at hQ
    exact field_GetUint_l1_step _ _ _ (Br_f (by omega) (field_GetUint_ret.intro hQ))
  | succ k ih =>
    intro acc i Q hk hi hil h0 ha hQ
    by_cases hlt : i < b.length
    · have hx := hb b[i] (List.getElem_mem hlt)
      have hr : rdI b (i : Int).toNat = b[i] := by rw [Int.toNat_natCast]; exact rdI_get hlt
      rw [List.drop_eq_getElem_cons hlt, gu] at hQ
      generalize hxe : b[i] = x at hx hr hQ
      have k3f : ¬ ((i = 9 ∧ 1 < x) ∨ (x = 0 ∧ 0 < i)) → field_GetUint_k3 acc i b false Q := by
        intro hn
        rw [if_neg hn] at hQ
        refine field_GetUint_k3_step _ _ _ _ (Br_bf rfl ?_)
        rw [hr, seven hi]
        by_cases h128 : x < 128
        · rw [if_pos h128] at hQ
          refine Br_t h128 ⟨by omega, field_GetUint_ret.intro ?_⟩
          rw [← seven hi, shor hi h0 ha ⟨hx.1, h128⟩ (by omega), addK_i64 (by omega)]
          exact hQ
        · rw [if_neg h128] at hQ
          refine Br_f h128 (field_GetUint_k4_step _ _ _ ⟨by rw [seven hi]; omega, ?_⟩)
          rw [hr, low7 hx, shor hi h0 ha ⟨by omega, by omega⟩ (by omega), addK_i64 (by omega)]
          obtain ⟨g0, g1, g2⟩ := grow (x := x % 128) hi h0 ha ⟨by omega, by omega⟩ (by omega)
          have hi9 : i + 1 ≤ 9 := by omega
          exact ih _ (i + 1) (by omega) hi9 (by omega) (by omega) g1 hQ
      have k3t : ((i = 9 ∧ 1 < x) ∨ (x = 0 ∧ 0 < i)) → field_GetUint_k3 acc i b true Q := by
        intro hp
        rw [if_pos hp] at hQ
        exact field_GetUint_k3_step _ _ _ _ (Br_bt rfl (field_GetUint_ret.intro hQ))
      have k2f : ¬ (i = 9 ∧ 1 < x) → field_GetUint_k2 acc i b false Q := by
        intro hn
        refine field_GetUint_k2_step _ _ _ _ (Br_bf rfl ?_)
        rw [hr]
        by_cases hx0 : x = 0
        · refine Br_et hx0 ?_
          by_cases hi0 : 0 < i
          · rw [decide_eq_true (by omega)]; exact k3t (.inr ⟨hx0, hi0⟩)
          · rw [decide_eq_false (by omega)]; exact k3f (by omega)
        · exact Br_ef hx0 (k3f (by omega))
      refine field_GetUint_l1_step _ _ _ (Br_t (by omega) ⟨⟨by omega, by omega⟩, ?_⟩)
      by_cases h9 : i = 9
      · refine Br_et (by omega) ?_
        rw [hr]
        by_cases hx1 : x > 1
        · rw [decide_eq_true hx1]
          exact field_GetUint_k2_step _ _ _ _ (Br_bt rfl (k3t (.inl ⟨h9, hx1⟩)))
        · rw [decide_eq_false hx1]; exact k2f (by omega)
      · exact Br_ef (by omega) (k2f (by omega))
    · rw [List.drop_of_length_le (by omega)] at hQ
      exact field_GetUint_l1_step _ _ _ (Br_f (by omega) (field_GetUint_ret.intro hQ))
theorem getUint_ev (b : List Int) (hb : IsB b) (hl : b.length ≤ 1000000) {Q : Int × Int → Prop} (h : Q (gu 0 0 b)) : field_GetUint b Q :=
  field_GetUint_step _ (getUint_l b hb hl b.length 0 0 (by omega) (by omega) (by omega) (by decide) (by decide) (by simpa using h))

theorem rgetUint_l (b : List Int) (hb : IsB b) (hl : b.length ≤ 1000000) : ∀ (k : Nat) (acc : Int) (i : Nat) {Q : Int × Int → Prop}, b.length - i ≤ k → i ≤ 9 → i ≤ b.length → 0 ≤ acc → acc < 2 ^ (7 * i) → Q (gu acc i (b.drop i)) → ref01_GetUint_l1 b acc (i : Int) Q := by
  intro k
  induction k with
  | zero =>
    intro acc i Q hk hi hil h0 ha hQ
    rw [List.drop_of_length_le (by omega)] at hQ
    exact ref01_GetUint_l1_step _ _ _ (Br_f (by omega) (ref01_GetUint_k2_step _ _ _ _ (Br_bf rfl (ref01_GetUint_ret.intro hQ))))
  | succ k ih =>
    intro acc i Q hk hi hil h0 ha hQ
    by_cases hlt : i < b.length
    · have hx := hb b[i] (List.getElem_mem hlt)
      have hr : rdI b (i : Int).toNat = b[i] := by rw [Int.toNat_natCast]; exact rdI_get hlt
      rw [List.drop_eq_getElem_cons hlt, gu] at hQ
      generalize hxe : b[i] = x at hx hr hQ
      have h7 : convK .u64 (mulK .i64 7 (i : Int)) = ((7 * i : Nat) : Int) := by rw [seven hi, convK_u64 ⟨by omega, by omega⟩]
      have sh : ∀ y : Int, 0 ≤ y ∧ y < 128 → (i = 9 → y ≤ 1) → addK .u64 acc (shlK .u64 (convK .u64 y) (((7 * i : Nat) : Int))) = acc + y * 2 ^ (7 * i) := by
        intro y hy h9
        obtain ⟨g0, g1, g2⟩ := grow hi h0 ha hy h9
        rw [convK_u64 ⟨hy.1, by omega⟩, shlK_u64 _ _ (by omega), Int.emod_eq_of_lt g0 (by omega), addK_u64 ⟨by omega, g2⟩]
      have k5 : ¬ (i = 9 ∧ 1 < x % 128) → ref01_GetUint_k5 b acc i Q := by
        intro hn
        refine ref01_GetUint_k5_step _ _ _ ⟨by rw [h7]; omega, ⟨by omega, by omega⟩, ?_⟩
        rw [hr, h7, remK_nn hx.1]
        by_cases h128 : x < 128
        · have hm : x % 128 = x := by omega
          refine Br_t h128 ?_
          have k7 : ¬ (x = 0 ∧ 0 < i) → ref01_GetUint_k7 acc b i Q := by
            intro h00
            rw [if_neg (by omega), if_pos h128] at hQ
            refine ref01_GetUint_k7_step _ _ _ (ref01_GetUint_ret.intro ?_)
            rw [hr, h7, remK_nn hx.1, hm, sh x ⟨hx.1, h128⟩ (by omega), addK_i64 (by omega)]
            exact hQ
          by_cases hi0 : (i : Int) > 0
          · refine Br_t hi0 ⟨⟨by omega, by omega⟩, ?_⟩
            by_cases hx0 : x = 0
            · rw [if_pos (by omega)] at hQ
              exact ref01_GetUint_k6_step _ _ _ _ (Br_et hx0 (ref01_GetUint_ret.intro hQ))
            · exact ref01_GetUint_k6_step _ _ _ _ (Br_ef hx0 (k7 (by omega)))
          · exact Br_f hi0 (ref01_GetUint_k6_step _ _ _ _ (Br_bf rfl (k7 (by omega))))
        · refine Br_f h128 ?_
          by_cases h9 : i = 9
          · subst h9
            rw [if_pos (by omega)] at hQ
            rw [sh (x % 128) ⟨by omega, by omega⟩ (by omega), addK_i64 (by omega)]
            by_cases h10 : 10 < b.length
            · exact ref01_GetUint_l1_step _ _ _ (Br_t (by omega) (ref01_GetUint_k2_step _ _ _ _ (Br_f (by omega) (ref01_GetUint_ret.intro hQ))))
            · exact ref01_GetUint_l1_step _ _ _ (Br_f (by omega) (ref01_GetUint_k2_step _ _ _ _ (Br_bf rfl (ref01_GetUint_ret.intro hQ))))
          · rw [if_neg (by omega), if_neg h128] at hQ
            rw [sh (x % 128) ⟨by omega, by omega⟩ (by omega), addK_i64 (by omega)]
            obtain ⟨g0, g1, g2⟩ := grow (x := x % 128) hi h0 ha ⟨by omega, by omega⟩ (by omega)
            exact ih _ (i + 1) (by omega) (by omega) (by omega) (by omega) g1 hQ
      refine ref01_GetUint_l1_step _ _ _ (Br_t (by omega) (ref01_GetUint_k2_step _ _ _ _ (Br_t (by omega) (ref01_GetUint_k3_step _ _ _ ⟨⟨by omega, by omega⟩, by decide, ?_⟩))))
      rw [hr, remK_nn hx.1, convK_u64 ⟨by omega, by omega⟩]
      by_cases h9 : i = 9
      · refine Br_et (by omega) ?_
        by_cases hx1 : x % 128 > 1
        · rw [if_pos (by omega)] at hQ
          exact ref01_GetUint_k4_step _ _ _ _ (Br_t hx1 (ref01_GetUint_ret.intro hQ))
        · exact ref01_GetUint_k4_step _ _ _ _ (Br_f hx1 (k5 (by omega)))
      · exact Br_ef (by omega) (ref01_GetUint_k4_step _ _ _ _ (Br_bf rfl (k5 (by omega))))
    · rw [List.drop_of_length_le (by omega)] at hQ
      exact ref01_GetUint_l1_step _ _ _ (Br_f (by omega) (ref01_GetUint_k2_step _ _ _ _ (Br_bf rfl (ref01_GetUint_ret.intro hQ))))
theorem rgetUint_ev (b : List Int) (hb : IsB b) (hl : b.length ≤ 1000000) {Q : Int × Int → Prop} (h : Q (gu 0 0 b)) : ref01_GetUint b Q :=
  ref01_GetUint_step _ (rgetUint_l b hb hl b.length 0 0 (by omega) (by omega) (by omega) (by decide) (by decide) (by simpa using h))

end Go.Proofs.Ytjgkmcjdkeifdaa
