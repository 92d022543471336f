import Derived.Test.YtjgkmcjdkeifdaaPuA
set_option linter.unusedVariables false
set_option linter.unusedSimpArgs false
namespace Go.Proofs.Ytjgkmcjdkeifdaa
open Go Go.Fw

/-! ### Numbers without a sign -/

def zigV (n : Int) : Int := if n < 0 then -2 * n - 1 else 2 * n
def zagV (v : Int) : Int := if v % 2 = 1 then -(v / 2) - 1 else v / 2

theorem xor_ones (x : Nat) (h : x < 18446744073709551616) : x ^^^ 18446744073709551615 = 18446744073709551615 - x := by
  have := congrArg BitVec.toNat (BitVec.xor_allOnes (x := BitVec.ofNat 64 x))
  simpa [Nat.mod_eq_of_lt h] using this

theorem zig_ev (n : Int) (h0 : -9223372036854775808 ≤ n) (h : n ≤ 9223372036854775807) {Q : Int → Prop} (hQ : Q (zigV n)) : field_Zig n Q := by
  refine field_Zig_step _ ⟨by decide, by decide, field_Zig_ret.intro ?_⟩
  have e1 : shlK .u64 (convK .u64 n) 1 = (n % 18446744073709551616) * 2 % 18446744073709551616 := by
    rw [convK_u64m]; exact shlK_u64 _ 1 (by decide)
  have e2 : shrK .i64 n 63 = n / 9223372036854775808 := shrK_eq .i64 n 63 (by decide)
  rw [e1, e2, convK_u64m, xorK_nat rfl ⟨by omega, by show _ < (2:Int) ^ 64; omega⟩ ⟨by omega, by show _ < (2:Int) ^ 64; omega⟩]
  unfold zigV at hQ
  by_cases hc : n < 0
  · have e3 : n / 9223372036854775808 = -1 := by omega
    rw [e3, show ((-1 : Int) % 18446744073709551616).toNat = 18446744073709551615 from by decide, xor_ones _ (by omega)]
    rw [if_pos hc] at hQ
    rw [show ((18446744073709551615 - (n % 18446744073709551616 * 2 % 18446744073709551616).toNat : Nat) : Int) = -2 * n - 1 from by omega]
    exact hQ
  · have e3 : n / 9223372036854775808 = 0 := by omega
    rw [e3, show ((0 : Int) % 18446744073709551616).toNat = 0 from by decide, Nat.xor_zero]
    rw [if_neg hc] at hQ
    rw [show (((n % 18446744073709551616 * 2 % 18446744073709551616).toNat : Nat) : Int) = 2 * n from by omega]
    exact hQ
theorem rzig_ev (n : Int) (h0 : -9223372036854775808 ≤ n) (h : n ≤ 9223372036854775807) {Q : Int → Prop} (hQ : Q (zigV n)) : ref01_Zig n Q := by
  refine ref01_Zig_step _ ?_
  unfold zigV at hQ
  by_cases hc : n < 0
  · refine Br_t hc (ref01_Zig_ret.intro ?_)
    rw [if_pos hc] at hQ
    rw [addK_i64 (by omega), negK_i64 (by omega), convK_u64 (by omega), mulK_u64 (by omega), addK_u64 (by omega)]
    rw [show (0 - (n + 1)) * 2 + 1 = -2 * n - 1 from by omega]; exact hQ
  · refine Br_f hc (ref01_Zig_ret.intro ?_)
    rw [if_neg hc] at hQ
    rw [convK_u64 (by omega), mulK_u64 (by omega), show n * 2 = 2 * n from by omega]; exact hQ

theorem and1 {v : Int} (h0 : 0 ≤ v) (h : v < 18446744073709551616) : andK .u64 v 1 = v % 2 := by
  rw [andK_nat rfl ⟨h0, by show v < (2:Int) ^ 64; omega⟩ ⟨by decide, by decide⟩]
  have : (1 : Int).toNat = 1 := rfl
  rw [this, Nat.and_one_is_mod]; omega
theorem xor_i64 (x y : Int) (hx : 0 ≤ x ∧ x ≤ 9223372036854775807) (hy : y = 0 ∨ y = -1) : xorK .i64 x y = if y = 0 then x else -x - 1 := by
  unfold xorK
  rw [BitVec.toNat_xor, ofInt_nat (w := IntKind.i64.bits) hx.1 (by show x < (2:Int) ^ 64; omega)]
  rcases hy with rfl | rfl
  · rw [if_pos rfl]
    have : (BitVec.ofInt IntKind.i64.bits 0).toNat = 0 := by decide
    rw [this, Nat.xor_zero, IntKind.wrap_i64]; omega
  · rw [if_neg (by decide)]
    have : (BitVec.ofInt IntKind.i64.bits (-1)).toNat = 18446744073709551615 := by decide
    rw [this, xor_ones _ (by omega), IntKind.wrap_i64]; omega
theorem zag_ev (v : Int) (h0 : 0 ≤ v) (h : v < 18446744073709551616) {Q : Int → Prop} (hQ : Q (zagV v)) : field_Zag v Q := by
  refine field_Zag_step _ ⟨by decide, field_Zag_ret.intro ?_⟩
  have e1 : shrK .u64 v 1 = v / 2 := shrK_eq .u64 v 1 (by decide)
  rw [e1, and1 h0 h, convK_i64 (x := v / 2) (by omega), convK_i64 (x := v % 2) (by omega), negK_i64 (by omega), xor_i64 _ _ (by omega) (by omega)]
  unfold zagV at hQ
  by_cases hc : v % 2 = 1
  · rw [if_neg (by omega)]; rw [if_pos hc] at hQ; exact hQ
  · rw [if_pos (by omega)]; rw [if_neg hc] at hQ; exact hQ
theorem rzag_ev (v : Int) (h0 : 0 ≤ v) (h : v < 18446744073709551616) {Q : Int → Prop} (hQ : Q (zagV v)) : ref01_Zag v Q := by
  refine ref01_Zag_step _ ⟨by decide, ?_⟩
  rw [remK_nn h0, quoK_u64 ⟨h0, h⟩ (by decide), convK_i64 (x := v / 2) (by omega)]
  unfold zagV at hQ
  by_cases hc : v % 2 = 1
  · rw [if_pos hc] at hQ
    refine Br_et hc ⟨by decide, ref01_Zag_ret.intro ?_⟩
    rw [negK_i64 (by omega), subK_i64 (by omega), show 0 - v / 2 - 1 = -(v / 2) - 1 from by omega]; exact hQ
  · rw [if_neg hc] at hQ
    exact Br_ef hc ⟨by decide, ref01_Zag_ret.intro hQ⟩
theorem zag_zig (n : Int) : zagV (zigV n) = n := by unfold zagV zigV; split <;> split <;> omega
theorem zig_zag (v : Int) (h : 0 ≤ v) : zigV (zagV v) = v := by unfold zagV zigV; split <;> split <;> omega
theorem zigV_range {n : Int} (h0 : -9223372036854775808 ≤ n) (h : n ≤ 9223372036854775807) : 0 ≤ zigV n ∧ zigV n < 18446744073709551616 := by unfold zigV; split <;> omega
theorem zagV_range {v : Int} (h0 : 0 ≤ v) (h : v < 18446744073709551616) : -9223372036854775808 ≤ zagV v ∧ zagV v ≤ 9223372036854775807 := by unfold zagV; split <;> omega

/-! ### Fields in bytes -/

abbrev Fd := eR0.T
def goodF (f : Fd) : Bool := decide (1 ≤ f.1) && decide (f.1 ≤ 1000) && (bif f.2.1 then f.2.2.1 == 0 else f.2.2.2.isEmpty)
def enc1 (f : Fd) : List Int := bif f.2.1 then uenc (2 * f.1 + 1) ++ uenc f.2.2.2.length ++ f.2.2.2 else uenc (2 * f.1) ++ uenc f.2.2.1
def wr : List Fd → List Int
  | [] => []
  | f :: r => (bif goodF f then enc1 f else []) ++ wr r
/-- A field's parts are what they may be in Go. -/
def FdOk (f : Fd) : Prop := (-9223372036854775808 ≤ f.1 ∧ f.1 ≤ 9223372036854775807) ∧ (0 ≤ f.2.2.1 ∧ f.2.2.1 < 18446744073709551616) ∧ IsB f.2.2.2 ∧ f.2.2.2.length ≤ 9223372036854775807

theorem len0 (l : List Int) : ((l.length : Int) == 0) = l.isEmpty := by
  cases l with
  | nil => rfl
  | cons x l =>
    have : ¬ (((x :: l).length : Int) = 0) := by simp only [List.length_cons]; omega
    rw [beq_eq_false_iff_ne.2 this]; rfl
theorem good_ev (f : Fd) {Q : Bool → Prop} (hQ : Q (goodF f)) : field_Good f Q := by
  refine field_Good_step _ ?_
  unfold goodF at hQ
  have hl := len0 f.2.2.2
  by_cases h1 : f.1 ≥ 1
  · refine Br_t h1 ?_
    rw [decide_eq_true (show 1 ≤ f.1 from h1), Bool.true_and] at hQ
    by_cases h2 : f.1 ≤ 1000
    · refine Br_t h2 ?_
      rw [decide_eq_true h2, Bool.true_and] at hQ
      cases hb : f.2.1 with
      | true =>
        rw [hb] at hQ
        simp only [cond_true] at hQ
        refine Br_bt rfl ?_
        by_cases h3 : f.2.2.1 = 0
        · rw [beq_iff_eq.2 h3] at hQ
          exact Br_et h3 (field_Good_ret.intro hQ)
        · rw [beq_eq_false_iff_ne.2 h3] at hQ
          exact Br_ef h3 (Br_bf rfl (field_Good_ret.intro hQ))
      | false =>
        rw [hb] at hQ
        simp only [cond_false] at hQ
        refine Br_bf rfl (Br_bt rfl (field_Good_ret.intro ?_))
        rw [hl]; exact hQ
    · rw [decide_eq_false h2] at hQ
      exact Br_f h2 (field_Good_ret.intro hQ)
  · rw [decide_eq_false (show ¬ 1 ≤ f.1 from h1)] at hQ
    exact Br_f h1 (field_Good_ret.intro hQ)

theorem goodF_num {f : Fd} (h : goodF f = true) : 1 ≤ f.1 ∧ f.1 ≤ 1000 := by
  unfold goodF at h
  simp only [Bool.and_eq_true, decide_eq_true_eq] at h
  exact h.1
theorem key0 {n : Int} (h : 1 ≤ n ∧ n ≤ 1000) : shlK .u64 (convK .u64 n) 1 = 2 * n := by
  rw [convK_u64 (by omega)]
  have := shlK_u64 n 1 (by decide)
  rw [show ((1 : Nat) : Int) = 1 from rfl] at this
  rw [this]; omega
theorem key1 {n : Int} (h : 1 ≤ n ∧ n ≤ 1000) : orK .u64 (shlK .u64 (convK .u64 n) 1) 1 = 2 * n + 1 := by
  rw [key0 h, orK_nat rfl ⟨by omega, by show _ < (2:Int) ^ 64; omega⟩ ⟨by decide, by decide⟩]
  have e : (2 * n).toNat = n.toNat * 2 ^ 1 := by omega
  have e1 : (1 : Int).toNat = 1 := rfl
  rw [e, e1, Nat.or_comm, or_add 1 n.toNat 1 (by decide)]; omega

theorem uints_ev (b : List Int) (x y : Int) {Q : List Int → Prop} (hb : b.length + 20 ≤ 1099511627776) (hx : 0 ≤ x ∧ x < 18446744073709551616) (hy : 0 ≤ y ∧ y < 18446744073709551616) (hQ : Q (b ++ uenc x ++ uenc y)) : field_uints b x y Q := by
  have := uenc_len10 hx.2
  exact field_uints_step _ _ _ ⟨by decide, field_uints_c1_step _ _ _ (b ++ uenc x) (uint_ev b x (by omega) hx.1 hx.2 rfl) ⟨by decide, rfl, field_uints_c2_step _ _ _ _ (uint_ev _ y (by simp; omega) hy.1 hy.2 rfl) (field_uints_ret.intro hQ)⟩⟩

theorem rd_get {e : EL} {l : List e.T} {i : Nat} (h : i < l.length) : rd e l i = l[i] := by simp [rd, h]

theorem write_l (l : List Fd) (hok : ∀ f ∈ l, FdOk f) (hl : l.length ≤ 1000000) : ∀ (k i : Nat) (b : List Int) {Q : List Int → Prop}, l.length - i ≤ k → i ≤ l.length → b.length + (wr (l.drop i)).length + 40 ≤ 1099511627776 → Q (b ++ wr (l.drop i)) → field_Write_l1 b l (i : Int) Q := by
  intro k
  induction k with
  | zero =>
    intro i b Q hk hi hb hQ
    rw [List.drop_of_length_le (by omega)] at hQ
    exact field_Write_l1_step _ _ _ (Br_f (by omega) (field_Write_ret.intro (by simpa [wr] using hQ)))
  | succ k ih =>
    intro i b Q hk hi hb hQ
    by_cases hlt : i < l.length
    · have hf := hok l[i] (List.getElem_mem hlt)
      have hr : rd eR0 l (i : Int).toNat = l[i] := by rw [Int.toNat_natCast]; exact rd_get hlt
      rw [List.drop_eq_getElem_cons hlt, wr] at hQ hb
      generalize l[i] = f at hf hr hQ hb
      have next : addK .i64 (i : Int) 1 = ((i + 1 : Nat) : Int) := by rw [addK_i64 (by omega)]; omega
      refine field_Write_l1_step _ _ _ (Br_t (by omega) ⟨⟨by omega, by omega⟩, by decide, field_Write_c1_step _ _ _ (goodF f) ?_ ?_⟩)
      · rw [hr]; exact good_ev f rfl
      · rw [hr]
        cases hg : goodF f with
        | false =>
          rw [hg] at hQ hb
          simp only [cond_false, List.nil_append] at hQ hb
          refine Br_bt rfl ?_
          rw [next]; exact ih (i + 1) b (by omega) (by omega) hb hQ
        | true =>
          rw [hg] at hQ hb
          simp only [cond_true] at hQ hb
          obtain ⟨n, hfn, hn⟩ : ∃ n : Int, n = f.1 ∧ 1 ≤ n ∧ n ≤ 1000 := ⟨_, rfl, goodF_num hg⟩
          refine Br_bf rfl ?_
          unfold enc1 at hQ hb
          rw [← hfn] at hQ hb
          cases ht : f.2.1 with
          | true =>
            rw [ht] at hQ hb
            simp only [cond_true] at hQ hb
            have hlen := hf.2.2.2
            refine Br_bt rfl (field_Write_c2_step _ _ _ _ (b ++ uenc (2 * n + 1) ++ uenc f.2.2.2.length) ?_ ⟨⟨rfl, ?_⟩, ?_⟩)
            · rw [hr, ← hfn, key1 hn, convK_u64 (x := (f.2.2.2.length : Int)) (by omega)]
              exact uints_ev b _ _ (by simp at hb; omega) (by omega) (by omega) rfl
            · rw [hr]; simp at hb ⊢; omega
            · rw [hr, next]
              refine ih (i + 1) _ (by omega) (by omega) (by simp at hb ⊢; omega) ?_
              simpa [List.append_assoc] using hQ
          | false =>
            rw [ht] at hQ hb
            simp only [cond_false] at hQ hb
            refine Br_bf rfl ⟨rfl, field_Write_c3_step _ _ _ (b ++ uenc (2 * n) ++ uenc f.2.2.1) ?_ ?_⟩
            · rw [hr, ← hfn, key0 hn]
              exact uints_ev b _ _ (by simp at hb; omega) (by omega) hf.2.1 rfl
            · rw [next]
              refine ih (i + 1) _ (by omega) (by omega) (by simp at hb ⊢; omega) ?_
              simpa [List.append_assoc] using hQ
    · rw [List.drop_of_length_le (by omega)] at hQ
      exact field_Write_l1_step _ _ _ (Br_f (by omega) (field_Write_ret.intro (by simpa [wr] using hQ)))
theorem write_ev (l : List Fd) (hok : ∀ f ∈ l, FdOk f) (hl : l.length ≤ 1000000) (hb : (wr l).length + 40 ≤ 1099511627776) {Q : List Int → Prop} (hQ : Q (wr l)) : field_Write l Q :=
  field_Write_step _ (write_l l hok hl l.length 0 [] (by omega) (by omega) (by simpa using hb) (by simpa using hQ))

/-! ### The document's examples -/

theorem lives_ev {Q : Bool → Prop} (hQ : Q true) : law01_lives Q := by
  have u300 : uenc 300 = [172, 2] := by rw [uenc_big (by decide), uenc_small (by decide)]; decide
  have w : wr [((1 : Int), false, (5 : Int), ([] : List Int)), (2, true, 0, [97])] = [2, 5, 5, 1, 97] := by
    have g1 : goodF ((1 : Int), false, (5 : Int), ([] : List Int)) = true := by decide
    have g2 : goodF ((2 : Int), true, (0 : Int), [(97 : Int)]) = true := by decide
    have e1 : enc1 ((1 : Int), false, (5 : Int), ([] : List Int)) = [2, 5] := by
      show uenc (2 * 1) ++ uenc 5 = _
      rw [uenc_small (by decide), uenc_small (by decide)]; rfl
    have e2 : enc1 ((2 : Int), true, (0 : Int), [(97 : Int)]) = [5, 1, 97] := by
      show uenc (2 * 2 + 1) ++ uenc ((1 : Nat) : Int) ++ [97] = _
      rw [uenc_small (by decide), uenc_small (by decide)]; rfl
    simp only [wr, g1, g2, cond_true, e1, e2]; rfl
  refine law01_lives_step (law01_lives_c1_step [172, 2] (uint_ev [] 300 (by decide) (by decide) (by decide) (by rw [u300]; rfl)) ⟨rfl, ?_⟩)
  have s1 : streq (bytesT [172, 2]) (ByteArray.mk #[172, 2]) = true := by rw [streq_eq]; decide
  rw [s1]
  refine Br_bt rfl (law01_lives_c2_step 5 (zig_ev (-3) (by decide) (by decide) (by decide)) (Br_et rfl ?_))
  refine law01_lives_c3_step [2, 5, 5, 1, 97] (write_ev _ ?_ (by decide) (by rw [w]; decide) w) ⟨rfl, law01_lives_ret.intro ?_⟩
  · intro f hf
    simp only [List.mem_cons, List.mem_nil_iff, or_false] at hf
    rcases hf with rfl | rfl
    · refine ⟨by decide, by decide, ?_, by decide⟩
      intro x hx; simp at hx
    · refine ⟨by decide, by decide, ?_, by decide⟩
      intro x hx; simp at hx; omega
  · have s2 : streq (bytesT [2, 5, 5, 1, 97]) (ByteArray.mk #[2, 5, 5, 1, 97]) = true := by rw [streq_eq]; decide
    rw [s2]; exact hQ

theorem isB_of_wf {b : List Int} (w : CT.wf (.sl (.one (.int .u8))) b) : IsB b ∧ b.length ≤ 9223372036854775807 := by
  refine ⟨fun x hx => ?_, Nat.le_trans w.1 (by decide)⟩
  have := w.2 x hx
  have h1 : (0 : Int) ≤ x := this.1
  have h2 : x ≤ 255 := this.2
  omega

theorem law01_FieldUints_true (b : List Int) (v n : Int) (wb : CT.wf (.sl (.one (.int .u8))) b) (wv : CT.wf (.int .u64) v) (wn : CT.wf (.int .i64) n) : law01_FieldUints b v n (fun x => x = true) := by
  obtain ⟨hb, hl⟩ := isB_of_wf wb
  have hv : 0 ≤ v ∧ v ≤ 18446744073709551615 := wv
  have hn : -9223372036854775808 ≤ n ∧ n ≤ 9223372036854775807 := wn
  refine law01_FieldUints_step _ _ _ ?_
  by_cases hlen : (b.length : Int) > 5000
  · exact Br_t hlen (law01_FieldUints_c1_step true (lives_ev rfl) (law01_FieldUints_ret.intro rfl))
  · refine Br_f hlen ?_
    refine law01_FieldUints_c2_step _ _ _ _ (getUint_ev b hb (by omega) rfl) (law01_FieldUints_c3_step _ _ _ _ _ (rgetUint_ev b hb (by omega) rfl) ?_)
    refine law01_FieldUints_c4_step _ _ _ _ _ _ (uint_ev b v (by omega) (by omega) (by omega) rfl) ⟨rfl, ?_⟩
    refine law01_FieldUints_c5_step _ _ _ _ _ _ _ (ruint_ev b v (by omega) (by omega) (by omega) rfl) ⟨rfl, ?_⟩
    refine Br_bt (streq_self _) (Br_et rfl (Br_et rfl ?_))
    refine law01_FieldUints_c6_step _ _ _ _ _ _ _ _ (zig_ev n hn.1 hn.2 rfl) (law01_FieldUints_c7_step _ _ _ _ _ _ _ _ _ (rzig_ev n hn.1 hn.2 rfl) (Br_et rfl ?_))
    refine law01_FieldUints_c8_step _ _ _ _ _ _ _ _ _ _ (zag_ev v (by omega) (by omega) rfl) (law01_FieldUints_c9_step _ _ _ _ _ _ _ _ _ _ _ (rzag_ev v (by omega) (by omega) rfl) (Br_et rfl ?_))
    exact law01_FieldUints_c10_step _ _ _ _ _ _ _ _ _ _ _ _ (lives_ev rfl) (law01_FieldUints_ret.intro rfl)

end Go.Proofs.Ytjgkmcjdkeifdaa
