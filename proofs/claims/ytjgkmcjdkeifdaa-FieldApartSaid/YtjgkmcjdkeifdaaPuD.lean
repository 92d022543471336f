import Derived.Test.YtjgkmcjdkeifdaaPuC
set_option linter.unusedVariables false
set_option linter.unusedSimpArgs false
namespace Go.Proofs.Ytjgkmcjdkeifdaa
open Go Go.Fw

/-! ### A number at the head of bytes is the one that was written -/

theorem back_bound {w x : Int} {i : Nat} (hi : i ≤ 8) (hx : 0 ≤ x ∧ x < 128) (h0 : 0 < w) (h : w * 2 ^ (7 * (i + 1)) < 18446744073709551616) :
    x * 2 ^ (7 * i) + w * 2 ^ (7 * (i + 1)) = (x + 128 * w) * 2 ^ (7 * i) ∧ (x + 128 * w) * 2 ^ (7 * i) < 18446744073709551616 := by
  revert h
  refine pow_cases (P := fun i => i ≤ 8 → w * 2 ^ (7 * (i + 1)) < 18446744073709551616 → x * 2 ^ (7 * i) + w * 2 ^ (7 * (i + 1)) = (x + 128 * w) * 2 ^ (7 * i) ∧ (x + 128 * w) * 2 ^ (7 * i) < 18446744073709551616) (i := i) (by omega) ?_ ?_ ?_ ?_ ?_ ?_ ?_ ?_ ?_ ?_ hi <;> intro hi h <;> simp only [Nat.reduceMul, Nat.reduceAdd, Int.reducePow] at h ⊢ <;> omega

theorem gu_inv : ∀ (b : List Int) (acc : Int) (i : Nat), IsB b → i ≤ 9 → 0 < (gu acc i b).2 →
    ∃ w rest, b = uenc w ++ rest ∧ 0 ≤ w ∧ (0 < i → 0 < w) ∧ w * 2 ^ (7 * i) < 18446744073709551616 := by
  intro b
  induction b with
  | nil => intro acc i _ _ h; simp [gu] at h
  | cons x r ih =>
    intro acc i hb hi h
    have hx := hb x (List.mem_cons_self ..)
    rw [gu] at h
    by_cases hc : (i = 9 ∧ 1 < x) ∨ (x = 0 ∧ 0 < i)
    · rw [if_pos hc] at h; exact absurd h (by decide)
    · rw [if_neg hc] at h
      by_cases hs : x < 128
      · refine ⟨x, r, by rw [uenc_small (by omega)]; rfl, hx.1, by omega, ?_⟩
        refine pow_cases (P := fun i => ¬((i = 9 ∧ 1 < x) ∨ (x = 0 ∧ 0 < i)) → x * 2 ^ (7 * i) < 18446744073709551616) hi ?_ ?_ ?_ ?_ ?_ ?_ ?_ ?_ ?_ ?_ hc <;> intro hc <;> simp only [Nat.reduceMul, Nat.reduceAdd, Int.reducePow] <;> omega
      · rw [if_neg hs] at h
        obtain ⟨w, rest, e, h0, hp, hb'⟩ := ih _ (i + 1) (fun y hy => hb y (List.mem_cons_of_mem _ hy)) (by omega) h
        have hw := hp (by omega)
        obtain ⟨-, h2⟩ := back_bound (x := x % 128) (by omega) (by omega) hw hb'
        refine ⟨x % 128 + 128 * w, rest, ?_, by omega, by omega, h2⟩
        rw [uenc_big (by omega), e, List.cons_append]
        congr 1
        · omega
        · rw [show (x % 128 + 128 * w) / 128 = w from by omega]

theorem uenc_cancel {v w : Int} {r s : List Int} (hv : 0 ≤ v ∧ v < 18446744073709551616) (hw : 0 ≤ w ∧ w < 18446744073709551616) (h : uenc v ++ r = uenc w ++ s) : v = w ∧ r = s := by
  have h1 := gu_all v r hv.1 hv.2
  rw [h, gu_all w s hw.1 hw.2] at h1
  have e : w = v := congrArg Prod.fst h1
  subst e
  exact ⟨rfl, List.append_cancel_left h⟩

/-! ### number, one, Read -/

theorem index_l (b : List Int) (hl : b.length ≤ 1000000) : ∀ (k i : Nat), b.length - i ≤ k → i ≤ b.length → ∃ r, slices_IndexFunc_byte_byte_l1 b (i : Int) (fun x => x = r) := by
  intro k
  induction k with
  | zero => intro i hk hi; exact ⟨-1, slices_IndexFunc_byte_byte_l1_step _ _ (Br_f (by omega) (slices_IndexFunc_byte_byte_ret.intro rfl))⟩
  | succ k ih =>
    intro i hk hi
    by_cases hlt : i < b.length
    · by_cases hc : rdI b (i : Int).toNat < 128
      · exact ⟨(i : Int), slices_IndexFunc_byte_byte_l1_step _ _ (Br_t (by omega) ⟨⟨by omega, by omega⟩, slices_IndexFunc_byte_byte_c1_step _ _ true (field_cut_f1_step _ (field_cut_f1_ret.intro (decide_eq_true hc))) (Br_bt rfl (slices_IndexFunc_byte_byte_ret.intro rfl))⟩)⟩
      · obtain ⟨r, hr⟩ := ih (i + 1) (by omega) (by omega)
        refine ⟨r, slices_IndexFunc_byte_byte_l1_step _ _ (Br_t (by omega) ⟨⟨by omega, by omega⟩, slices_IndexFunc_byte_byte_c1_step _ _ false (field_cut_f1_step _ (field_cut_f1_ret.intro (decide_eq_false hc))) (Br_bf rfl ?_)⟩)⟩
        rw [addK_i64 (by omega)]; exact hr
    · exact ⟨-1, slices_IndexFunc_byte_byte_l1_step _ _ (Br_f (by omega) (slices_IndexFunc_byte_byte_ret.intro rfl))⟩
theorem cut_ev (b : List Int) (hl : b.length ≤ 1000000) : ∃ r, field_cut b (fun x => x = r) := by
  by_cases h : (b.length : Int) < 10
  · obtain ⟨r, hr⟩ := index_l b hl b.length 0 (by omega) (by omega)
    exact ⟨_, field_cut_step _ (Br_t h (field_cut_c1_step _ _ (slices_ContainsFunc_byte_byte_step _ (slices_ContainsFunc_byte_byte_c1_step _ _ (slices_IndexFunc_byte_byte_step _ hr) (slices_ContainsFunc_byte_byte_ret.intro rfl))) (field_cut_ret.intro rfl)))⟩
  · exact ⟨false, field_cut_step _ (Br_f h (field_cut_ret.intro rfl))⟩

theorem isB_app {a b : List Int} : IsB (a ++ b) ↔ IsB a ∧ IsB b := by
  simp only [IsB, List.mem_append]
  exact ⟨fun h => ⟨fun x hx => h x (.inl hx), fun x hx => h x (.inr hx)⟩, fun h x hx => hx.elim (h.1 x) (h.2 x)⟩

theorem number_ev (v : Int) (rest : List Int) (hr : IsB rest) (hl : rest.length ≤ 900000) (h0 : 0 ≤ v) (h : v < 18446744073709551616) {Q : Int × List Int × Int → Prop} (hQ : Q (v, rest, 0)) : field_number (uenc v ++ rest) Q := by
  have h10 := uenc_len10 h
  have h1 := uenc_pos v
  refine field_number_step _ (field_number_c1_step _ (v, ((uenc v).length : Int)) (getUint_ev _ (isB_app.2 ⟨uenc_isB _ v (Nat.le_refl _) h0, hr⟩) (by simp; omega) (gu_all v rest h0 h)) (Br_t (by omega) ⟨⟨by omega, by simp; omega⟩, field_number_ret.intro ?_⟩))
  show Q (v, (uenc v ++ rest).drop ((uenc v).length : Int).toNat, 0)
  rw [Int.toNat_natCast, List.drop_left]; exact hQ
theorem number_any (b : List Int) (hb : IsB b) (hl : b.length ≤ 900000) :
    (∃ v rest, b = uenc v ++ rest ∧ 0 ≤ v ∧ v < 18446744073709551616) ∨ (∃ e : Int, e ≠ 0 ∧ field_number b (fun x => x = (0, [], e))) := by
  by_cases h : 0 < (gu 0 0 b).2
  · obtain ⟨w, rest, e, h0, -, h2⟩ := gu_inv b 0 0 hb (by decide) h
    exact .inl ⟨w, rest, e, h0, by omega⟩
  · refine .inr ?_
    obtain ⟨r, hr⟩ := cut_ev b (by omega)
    cases r with
    | true => exact ⟨3, by decide, field_number_step _ (field_number_c1_step _ _ (getUint_ev b hb (by omega) rfl) (Br_f h (field_number_c2_step _ true hr (Br_bt rfl (field_number_ret.intro rfl)))))⟩
    | false => exact ⟨4, by decide, field_number_step _ (field_number_c1_step _ _ (getUint_ev b hb (by omega) rfl) (Br_f h (field_number_c2_step _ false hr (Br_bf rfl (field_number_ret.intro rfl)))))⟩

theorem and1i {k : Int} (h0 : 0 ≤ k) (h : k < 18446744073709551616) : andK .u64 k 1 = k % 2 := and1 h0 h

/-- The head of a field's bytes: its key. -/
theorem one_num (k v : Int) (rest : List Int) (hr : IsB rest) (hl : rest.length ≤ 800000) (hk : 2 ≤ k ∧ k < 2002) (he : k % 2 = 0) (hv : 0 ≤ v ∧ v < 18446744073709551616) {Q : eR0.T × List Int × Int → Prop} (hQ : Q ((k / 2, false, v, []), rest, 0)) : field_one (uenc k ++ (uenc v ++ rest)) Q := by
  have hB := uenc_isB _ v (Nat.le_refl _) hv.1
  have h10 := uenc_len10 hv.2
  have hs : shrK .u64 k 1 = k / 2 := shrK_eq .u64 k 1 (by decide)
  have ha := and1i (k := k) (by omega) (by omega)
  refine field_one_step _ (field_one_c1_step _ (k, uenc v ++ rest, 0) (number_ev k _ (isB_app.2 ⟨hB, hr⟩) (by simp; omega) (by omega) (by omega) rfl) (Br_bf rfl ⟨by decide, ?_⟩))
  simp only [hs]
  refine Br_f (by omega) ⟨by decide, field_one_k1_step _ _ (Br_bf (decide_eq_false (by omega)) (field_one_k2_step _ ⟨by decide, ?_⟩))⟩
  refine field_one_c2_step _ (v, rest, 0) (number_ev v rest hr (by omega) hv.1 hv.2 rfl) (Br_bf rfl ?_)
  simp only [hs, ha]
  rw [decide_eq_false (show ¬ (k % 2 > 0) by omega)]
  refine Br_bt rfl (field_one_ret.intro ?_)
  rw [convK_i64 (by omega)]
  exact hQ
theorem one_text (k : Int) (t rest : List Int) (ht : IsB t) (hr : IsB rest) (hl : t.length + rest.length ≤ 800000) (hk : 2 ≤ k ∧ k < 2002) (he : k % 2 = 1) {Q : eR0.T × List Int × Int → Prop} (hQ : Q ((k / 2, true, 0, t), rest, 0)) : field_one (uenc k ++ (uenc t.length ++ (t ++ rest))) Q := by
  have hB := uenc_isB _ (t.length : Int) (Nat.le_refl _) (by omega)
  have h10 := uenc_len10 (v := (t.length : Int)) (by omega)
  have hs : shrK .u64 k 1 = k / 2 := shrK_eq .u64 k 1 (by decide)
  have ha := and1i (k := k) (by omega) (by omega)
  refine field_one_step _ (field_one_c1_step _ (k, uenc t.length ++ (t ++ rest), 0) (number_ev k _ (isB_app.2 ⟨hB, isB_app.2 ⟨ht, hr⟩⟩) (by simp; omega) (by omega) (by omega) rfl) (Br_bf rfl ⟨by decide, ?_⟩))
  simp only [hs]
  refine Br_f (by omega) ⟨by decide, field_one_k1_step _ _ (Br_bf (decide_eq_false (by omega)) (field_one_k2_step _ ⟨by decide, ?_⟩))⟩
  refine field_one_c2_step _ ((t.length : Int), t ++ rest, 0) (number_ev _ _ (isB_app.2 ⟨ht, hr⟩) (by simp; omega) (by omega) (by omega) rfl) (Br_bf rfl ?_)
  simp only [hs, ha]
  rw [decide_eq_true (show (k % 2 > 0) by omega)]
  refine Br_bf rfl (Br_f ?_ ⟨⟨by omega, by simp; omega⟩, field_one_c3_step _ _ t ?_ ⟨⟨by omega, by simp; omega⟩, rfl, ?_⟩⟩)
  · rw [convK_u64 (by simp; omega)]; simp; omega
  · refine clone_ev _ (by simp; omega) ?_
    show (t ++ rest).take (t.length : Int).toNat = t
    rw [Int.toNat_natCast, List.take_left]
  · refine field_one_ret.intro ?_
    simp only [hs, ha]
    rw [convK_i64 (by omega), decide_eq_true (show (k % 2 > 0) by omega), Int.toNat_natCast, List.drop_left]
    exact hQ

theorem enc1_num (k v : Int) : enc1 ((k / 2, false, v, []) : Fd) = uenc (2 * (k / 2)) ++ uenc v := rfl
theorem enc1_text (k : Int) (t : List Int) : enc1 ((k / 2, true, 0, t) : Fd) = uenc (2 * (k / 2) + 1) ++ uenc t.length ++ t := rfl

theorem goodF_cases {f : Fd} (h : goodF f = true) : ∃ n : Int, (1 ≤ n ∧ n ≤ 1000) ∧ ((∃ v : Int, f = (n, false, v, [])) ∨ (∃ t : List Int, f = (n, true, 0, t))) := by
  obtain ⟨n, tx, v, t⟩ := f
  have hn : (1 : Int) ≤ n ∧ n ≤ 1000 := goodF_num h
  refine ⟨n, hn, ?_⟩
  unfold goodF at h
  simp only [Bool.and_eq_true] at h
  cases tx with
  | true =>
    have hv : v = 0 := by simpa using h.2
    subst hv
    exact .inr ⟨t, rfl⟩
  | false =>
    have ht : t = [] := by simpa using h.2
    subst ht
    exact .inl ⟨v, rfl⟩
theorem goodF_numr {n v : Int} (h : 1 ≤ n ∧ n ≤ 1000) : goodF ((n, false, v, []) : Fd) = true := by
  unfold goodF
  simp only [cond_false, Bool.and_eq_true]
  exact ⟨⟨decide_eq_true h.1, decide_eq_true h.2⟩, rfl⟩
theorem goodF_textr {n : Int} {t : List Int} (h : 1 ≤ n ∧ n ≤ 1000) : goodF ((n, true, 0, t) : Fd) = true := by
  unfold goodF
  simp only [cond_true, Bool.and_eq_true]
  exact ⟨⟨decide_eq_true h.1, decide_eq_true h.2⟩, rfl⟩

theorem one_ev (f : Fd) (rest : List Int) (hg : goodF f = true) (hf : FdOk f) (hr : IsB rest) (hl : f.2.2.2.length + rest.length ≤ 800000) {Q : eR0.T × List Int × Int → Prop} (hQ : Q (f, rest, 0)) : field_one (enc1 f ++ rest) Q := by
  obtain ⟨n, hn, ⟨v, rfl⟩ | ⟨t, rfl⟩⟩ := goodF_cases hg
  · have hv : 0 ≤ v ∧ v < 18446744073709551616 := hf.2.1
    show field_one ((uenc (2 * n) ++ uenc v) ++ rest) Q
    rw [List.append_assoc]
    refine one_num (2 * n) v rest hr (by simp at hl; omega) (by omega) (by omega) hv ?_
    rw [show 2 * n / 2 = n from by omega]; exact hQ
  · have ht : IsB t := hf.2.2.1
    show field_one ((uenc (2 * n + 1) ++ uenc t.length ++ t) ++ rest) Q
    rw [List.append_assoc, List.append_assoc]
    refine one_text (2 * n + 1) t rest ht hr hl (by omega) (by omega) ?_
    rw [show (2 * n + 1) / 2 = n from by omega]; exact hQ

theorem one_any (b : List Int) (hb : IsB b) (hl : b.length ≤ 700000) :
    (∃ f rest, b = enc1 f ++ rest ∧ goodF f = true ∧ FdOk f) ∨ (∃ e : Int, e ≠ 0 ∧ field_one b (fun x => x = ((0, false, 0, []), [], e))) := by
  rcases number_any b hb (by omega) with ⟨k, b1, rfl, h0, hk⟩ | ⟨e, he, hn⟩
  · obtain ⟨-, hb1⟩ := isB_app.1 hb
    have hs : shrK .u64 k 1 = k / 2 := shrK_eq .u64 k 1 (by decide)
    have ha := and1i (k := k) h0 hk
    simp only [List.length_append] at hl
    have hnum := fun {Q} => number_ev k b1 hb1 (by omega) h0 hk (Q := Q)
    by_cases hr : 2 ≤ k ∧ k < 2002
    · rcases number_any b1 hb1 (by omega) with ⟨v, b2, rfl, hv0, hv⟩ | ⟨e, he, hn⟩
      · obtain ⟨-, hb2⟩ := isB_app.1 hb1
        simp only [List.length_append] at hl
        rcases (show k % 2 = 0 ∨ k % 2 = 1 by omega) with hp | hp
        · refine .inl ⟨(k / 2, false, v, []), b2, ?_, goodF_numr (by omega), ⟨?_, ⟨hv0, hv⟩, ?_, by simp⟩⟩
          · rw [enc1_num, show 2 * (k / 2) = k from by omega, List.append_assoc]
          · show -9223372036854775808 ≤ k / 2 ∧ k / 2 ≤ 9223372036854775807; omega
          · intro x hx; simp at hx
        · by_cases hlen : v ≤ b2.length
          · have e1 : ((b2.take v.toNat).length : Int) = v := by simp; omega
            refine .inl ⟨(k / 2, true, 0, b2.take v.toNat), b2.drop v.toNat, ?_, goodF_textr (by omega), ⟨?_, ⟨Int.le_refl _, (by decide : (0 : Int) < 18446744073709551616)⟩, fun x hx => hb2 x (List.mem_of_mem_take hx), ?_⟩⟩
            · rw [enc1_text, show 2 * (k / 2) + 1 = k from by omega, e1, List.append_assoc, List.append_assoc, List.take_append_drop]
            · show -9223372036854775808 ≤ k / 2 ∧ k / 2 ≤ 9223372036854775807; omega
            · show (b2.take v.toNat).length ≤ 9223372036854775807
              simp; omega
          · refine .inr ⟨3, by decide, field_one_step _ (field_one_c1_step _ (k, uenc v ++ b2, 0) (hnum rfl) (Br_bf rfl ⟨by decide, ?_⟩))⟩
            simp only [hs]
            refine Br_f (by omega) ⟨by decide, field_one_k1_step _ _ (Br_bf (decide_eq_false (by omega)) (field_one_k2_step _ ⟨by decide, ?_⟩))⟩
            refine field_one_c2_step _ (v, b2, 0) (number_ev v b2 hb2 (by omega) hv0 hv rfl) (Br_bf rfl ?_)
            simp only [hs, ha]
            rw [decide_eq_true (show (k % 2 > 0) by omega)]
            refine Br_bf rfl (Br_t ?_ (field_one_ret.intro rfl))
            rw [convK_u64 (by omega)]; omega
      · refine .inr ⟨e, he, field_one_step _ (field_one_c1_step _ (k, b1, 0) (hnum rfl) (Br_bf rfl ⟨by decide, ?_⟩))⟩
        simp only [hs]
        refine Br_f (by omega) ⟨by decide, field_one_k1_step _ _ (Br_bf (decide_eq_false (by omega)) (field_one_k2_step _ ⟨by decide, ?_⟩))⟩
        exact field_one_c2_step _ (0, [], e) hn (Br_bt (bne_iff_ne.2 he) (field_one_ret.intro rfl))
    · refine .inr ⟨4, by decide, field_one_step _ (field_one_c1_step _ (k, b1, 0) (hnum rfl) (Br_bf rfl ⟨by decide, ?_⟩))⟩
      simp only [hs]
      by_cases h1 : k / 2 < 1
      · exact Br_t h1 (field_one_k1_step _ _ (Br_bt rfl (field_one_ret.intro rfl)))
      · exact Br_f h1 ⟨by decide, field_one_k1_step _ _ (Br_bt (decide_eq_true (by omega)) (field_one_ret.intro rfl))⟩
  · exact .inr ⟨e, he, field_one_step _ (field_one_c1_step _ (0, [], e) hn (Br_bt (bne_iff_ne.2 he) (field_one_ret.intro rfl)))⟩

theorem enc1_pos (f : Fd) : 1 ≤ (enc1 f).length := by
  unfold enc1
  cases f.2.1 with
  | true => have := uenc_pos (2 * f.1 + 1); simp only [cond_true, List.length_append]; omega
  | false => have := uenc_pos (2 * f.1); simp only [cond_false, List.length_append]; omega
theorem enc1_text_le {f : Fd} (h : goodF f = true) : f.2.2.2.length ≤ (enc1 f).length := by
  obtain ⟨n, hn, ⟨v, rfl⟩ | ⟨t, rfl⟩⟩ := goodF_cases h
  · simp
  · show t.length ≤ (uenc (2 * n + 1) ++ uenc t.length ++ t).length
    simp only [List.length_append]; omega
theorem enc1_isB {f : Fd} (h : goodF f = true) (hf : FdOk f) : IsB (enc1 f) := by
  obtain ⟨n, hn, ⟨v, rfl⟩ | ⟨t, rfl⟩⟩ := goodF_cases h
  · exact isB_app.2 ⟨uenc_isB _ _ (Nat.le_refl _) (by omega), uenc_isB _ _ (Nat.le_refl _) hf.2.1.1⟩
  · exact isB_app.2 ⟨isB_app.2 ⟨uenc_isB _ _ (Nat.le_refl _) (by omega), uenc_isB _ _ (Nat.le_refl _) (by omega)⟩, hf.2.2.1⟩
theorem wr_cons {f : Fd} {l : List Fd} (h : goodF f = true) : wr (f :: l) = enc1 f ++ wr l := by rw [wr, h, cond_true]
theorem wr_app (l m : List Fd) : wr (l ++ m) = wr l ++ wr m := by
  induction l with
  | nil => rfl
  | cons f l ih => rw [List.cons_append, wr, wr, ih, List.append_assoc]
theorem wr_filter (l : List Fd) : wr (l.filter goodF) = wr l := by
  induction l with
  | nil => rfl
  | cons f l ih =>
    cases h : goodF f with
    | true => rw [List.filter_cons_of_pos h, wr_cons h, wr_cons h, ih]
    | false => rw [List.filter_cons_of_neg (by simp [h]), wr, h, cond_false, List.nil_append, ih]
theorem wr_isB {l : List Fd} (hok : ∀ f ∈ l, FdOk f) : IsB (wr l) := by
  induction l with
  | nil => intro x hx; simp [wr] at hx
  | cons f l ih =>
    rw [wr]
    refine isB_app.2 ⟨?_, ih fun g hg => hok g (List.mem_cons_of_mem _ hg)⟩
    cases h : goodF f with
    | true => exact enc1_isB h (hok f (List.mem_cons_self ..))
    | false => intro x hx; simp at hx
theorem wr_len {l : List Fd} (hg : ∀ f ∈ l, goodF f = true) : l.length ≤ (wr l).length := by
  induction l with
  | nil => simp
  | cons f l ih =>
    rw [wr_cons (hg f (List.mem_cons_self ..)), List.length_append, List.length_cons]
    have := enc1_pos f
    have := ih fun g h => hg g (List.mem_cons_of_mem _ h)
    omega

theorem read_l (m : List Fd) : ∀ (l : List Fd) {Q : Int × List eR0.T → Prop}, (∀ f ∈ m, goodF f = true) → (∀ f ∈ m, FdOk f) → (wr m).length ≤ 600000 → l.length + m.length ≤ 1000000 → Q (0, l ++ m) → field_Read_l1 (wr m) l Q := by
  induction m with
  | nil =>
    intro l Q _ _ _ _ hQ
    exact field_Read_l1_step _ _ (Br_f (by simp [wr]) (field_Read_ret.intro (by simpa using hQ)))
  | cons f m ih =>
    intro l Q hg hok hl hn hQ
    have hgf := hg f (List.mem_cons_self ..)
    have hokf := hok f (List.mem_cons_self ..)
    have hok' := fun g h => hok g (List.mem_cons_of_mem _ h)
    have h1 := enc1_pos f
    have h2 := enc1_text_le hgf
    rw [wr_cons hgf] at hl ⊢
    simp only [List.length_append, List.length_cons] at hl hn
    refine field_Read_l1_step _ _ (Br_t (by simp only [List.length_append]; omega) (field_Read_c1_step _ _ (f, wr m, 0) (one_ev f (wr m) hgf hokf (wr_isB hok') (by omega) rfl) (Br_bf rfl ⟨⟨rfl, by omega⟩, ?_⟩)))
    exact ih (l ++ [f]) (fun g h => hg g (List.mem_cons_of_mem _ h)) hok' (by omega) (by simp; omega) (by simpa using hQ)
theorem read_ev (m : List Fd) (hg : ∀ f ∈ m, goodF f = true) (hok : ∀ f ∈ m, FdOk f) (hl : (wr m).length ≤ 600000) {Q : Int × List eR0.T → Prop} (hQ : Q (0, m)) : field_Read (wr m) Q :=
  field_Read_step _ (read_l m [] hg hok hl (by have := wr_len hg; simp; omega) (by simpa using hQ))

theorem readany_l : ∀ (k : Nat) (b : List Int) (l : List Fd), b.length ≤ k → IsB b → l.length + b.length ≤ 600000 →
    (∃ m, b = wr m ∧ (∀ f ∈ m, goodF f = true) ∧ (∀ f ∈ m, FdOk f)) ∨ (∃ e : Int, e ≠ 0 ∧ field_Read_l1 b l (fun x => x = (e, []))) := by
  intro k
  induction k with
  | zero =>
    intro b l hk hb hl
    refine .inl ⟨[], ?_, by simp, by simp⟩
    exact List.length_eq_zero_iff.1 (by omega)
  | succ k ih =>
    intro b l hk hb hl
    by_cases h0 : b = []
    · exact .inl ⟨[], h0, by simp, by simp⟩
    · have hp : 0 < b.length := List.length_pos_iff.2 h0
      rcases one_any b hb (by omega) with ⟨f, rest, rfl, hg, hok⟩ | ⟨e, he, ho⟩
      · obtain ⟨-, hr⟩ := isB_app.1 hb
        have h1 := enc1_pos f
        have h2 := enc1_text_le hg
        simp only [List.length_append] at hk hl hp
        rcases ih rest (l ++ [f]) (by omega) hr (by simp; omega) with ⟨m, rfl, hgm, hokm⟩ | ⟨e, he, hn⟩
        · refine .inl ⟨f :: m, (wr_cons hg).symm, ?_, ?_⟩
          · intro g hm; exact (List.mem_cons.1 hm).elim (fun e => e ▸ hg) (hgm g)
          · intro g hm; exact (List.mem_cons.1 hm).elim (fun e => e ▸ hok) (hokm g)
        · exact .inr ⟨e, he, field_Read_l1_step _ _ (Br_t (by simp only [List.length_append]; omega) (field_Read_c1_step _ _ (f, rest, 0) (one_ev f rest hg hok hr (by omega) rfl) (Br_bf rfl ⟨⟨rfl, by omega⟩, hn⟩)))⟩
      · exact .inr ⟨e, he, field_Read_l1_step _ _ (Br_t (by omega) (field_Read_c1_step _ _ ((0, false, 0, []), [], e) ho (Br_bt (bne_iff_ne.2 he) (field_Read_ret.intro rfl))))⟩
theorem read_any (b : List Int) (hb : IsB b) (hl : b.length ≤ 600000) :
    (∃ m, b = wr m ∧ (∀ f ∈ m, goodF f = true) ∧ (∀ f ∈ m, FdOk f)) ∨ (∃ e : Int, e ≠ 0 ∧ field_Read b (fun x => x = (e, []))) := by
  rcases readany_l b.length b [] (Nat.le_refl _) hb (by simpa using hl) with h | ⟨e, he, h⟩
  · exact .inl h
  · exact .inr ⟨e, he, field_Read_step _ h⟩

theorem enc1_cancel {f g : Fd} {r s : List Int} (hf : goodF f = true) (hg : goodF g = true) (of : FdOk f) (og : FdOk g) (h : enc1 f ++ r = enc1 g ++ s) : f = g ∧ r = s := by
  obtain ⟨n, hn, ⟨v, rfl⟩ | ⟨t, rfl⟩⟩ := goodF_cases hf <;> obtain ⟨m, hm, ⟨w, rfl⟩ | ⟨u, rfl⟩⟩ := goodF_cases hg
  · have hv : 0 ≤ v ∧ v < 18446744073709551616 := of.2.1
    have hw : 0 ≤ w ∧ w < 18446744073709551616 := og.2.1
    have h : (uenc (2 * n) ++ uenc v) ++ r = (uenc (2 * m) ++ uenc w) ++ s := h
    rw [List.append_assoc, List.append_assoc] at h
    obtain ⟨e1, h'⟩ := uenc_cancel (by omega) (by omega) h
    obtain ⟨e2, h''⟩ := uenc_cancel hv hw h'
    have e1 : n = m := by omega
    subst e1; subst e2
    exact ⟨rfl, h''⟩
  · have h : (uenc (2 * n) ++ uenc v) ++ r = (uenc (2 * m + 1) ++ uenc u.length ++ u) ++ s := h
    rw [List.append_assoc, List.append_assoc, List.append_assoc] at h
    obtain ⟨e1, h'⟩ := uenc_cancel (by omega) (by omega) h
    omega
  · have h : (uenc (2 * n + 1) ++ uenc t.length ++ t) ++ r = (uenc (2 * m) ++ uenc w) ++ s := h
    rw [List.append_assoc, List.append_assoc, List.append_assoc] at h
    obtain ⟨e1, h'⟩ := uenc_cancel (by omega) (by omega) h
    omega
  · have ht : t.length ≤ 9223372036854775807 := of.2.2.2
    have hu : u.length ≤ 9223372036854775807 := og.2.2.2
    have h : (uenc (2 * n + 1) ++ uenc t.length ++ t) ++ r = (uenc (2 * m + 1) ++ uenc u.length ++ u) ++ s := h
    rw [List.append_assoc, List.append_assoc, List.append_assoc, List.append_assoc] at h
    obtain ⟨e1, h'⟩ := uenc_cancel (by omega) (by omega) h
    obtain ⟨e2, h''⟩ := uenc_cancel (by omega) (by omega) h'
    have e1 : n = m := by omega
    subst e1
    obtain ⟨e3, e4⟩ := List.append_inj h'' (by omega)
    subst e3
    exact ⟨rfl, e4⟩
theorem wr_inj : ∀ {l m : List Fd}, (∀ f ∈ l, goodF f = true) → (∀ f ∈ m, goodF f = true) → (∀ f ∈ l, FdOk f) → (∀ f ∈ m, FdOk f) → wr l = wr m → l = m := by
  intro l
  induction l with
  | nil =>
    intro m _ hm _ _ h
    have := wr_len hm
    rw [← h] at this
    exact (List.length_eq_zero_iff.1 (by simpa [wr] using this)).symm
  | cons f l ih =>
    intro m hl hm ol om h
    cases m with
    | nil =>
      have := wr_len hl
      rw [h] at this
      simp [wr] at this
    | cons g m =>
      rw [wr_cons (hl f (List.mem_cons_self ..)), wr_cons (hm g (List.mem_cons_self ..))] at h
      obtain ⟨rfl, h'⟩ := enc1_cancel (hl f (List.mem_cons_self ..)) (hm g (List.mem_cons_self ..)) (ol f (List.mem_cons_self ..)) (om g (List.mem_cons_self ..)) h
      rw [ih (fun f h => hl f (List.mem_cons_of_mem _ h)) (fun f h => hm f (List.mem_cons_of_mem _ h)) (fun f h => ol f (List.mem_cons_of_mem _ h)) (fun f h => om f (List.mem_cons_of_mem _ h)) h']

end Go.Proofs.Ytjgkmcjdkeifdaa
