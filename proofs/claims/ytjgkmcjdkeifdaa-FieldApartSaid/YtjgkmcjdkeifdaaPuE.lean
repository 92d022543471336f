import Derived.Test.YtjgkmcjdkeifdaaPuD
set_option linter.unusedVariables false
set_option linter.unusedSimpArgs false
namespace Go.Proofs.Ytjgkmcjdkeifdaa
open Go Go.Fw

theorem fdOk_of_wf {l : List Fd} (w : CT.wf (.sl eR0) l) : l.length ≤ 9223372036854775807 ∧ ∀ f ∈ l, FdOk f := by
  refine ⟨Nat.le_trans w.1 (by decide), fun f hf => ?_⟩
  have h := w.2 f hf
  have h1 : (-9223372036854775808 : Int) ≤ f.1 ∧ f.1 ≤ 9223372036854775807 := h.1
  have h2 : (0 : Int) ≤ f.2.2.1 ∧ f.2.2.1 ≤ 18446744073709551615 := h.2.2.1
  have h3 := isB_of_wf (b := f.2.2.2) h.2.2.2
  exact ⟨h1, ⟨h2.1, Int.lt_of_le_of_lt h2.2 (by decide)⟩, h3.1, h3.2⟩

def Light (l : List Fd) : Prop := l.length ≤ 200 ∧ ∀ f ∈ l, f.2.2.2.length ≤ 2000
theorem light_l (l : List Fd) (hl : l.length ≤ 200) : ∀ (k i : Nat), l.length - i ≤ k → i ≤ l.length →
    ((∀ f ∈ l.drop i, f.2.2.2.length ≤ 2000) ∧ law01_light_l1 l (i : Int) (fun x => x = true)) ∨ law01_light_l1 l (i : Int) (fun x => x = false) := by
  intro k
  induction k with
  | zero =>
    intro i hk hi
    rw [List.drop_of_length_le (by omega)]
    exact .inl ⟨by simp, law01_light_l1_step _ _ (Br_f (by omega) (law01_light_ret.intro rfl))⟩
  | succ k ih =>
    intro i hk hi
    by_cases hlt : i < l.length
    · have hr : rd eR0 l (i : Int).toNat = l[i] := by rw [Int.toNat_natCast]; exact rd_get hlt
      by_cases hc : (((rd eR0 l (i : Int).toNat).2.2.2).length : Int) > 2000
      · exact .inr (law01_light_l1_step _ _ (Br_t (by omega) ⟨⟨by omega, by omega⟩, Br_t hc (law01_light_ret.intro rfl)⟩))
      · have hn : addK .i64 (i : Int) 1 = ((i + 1 : Nat) : Int) := by rw [addK_i64 (by omega)]; omega
        rcases ih (i + 1) (by omega) (by omega) with ⟨h1, h2⟩ | h2
        · refine .inl ⟨?_, law01_light_l1_step _ _ (Br_t (by omega) ⟨⟨by omega, by omega⟩, Br_f hc (hn ▸ h2)⟩)⟩
          rw [List.drop_eq_getElem_cons hlt]
          rw [hr] at hc
          intro f hf
          rcases List.mem_cons.1 hf with rfl | hf
          · omega
          · exact h1 f hf
        · exact .inr (law01_light_l1_step _ _ (Br_t (by omega) ⟨⟨by omega, by omega⟩, Br_f hc (hn ▸ h2)⟩))
    · rw [List.drop_of_length_le (by omega)]
      exact .inl ⟨by simp, law01_light_l1_step _ _ (Br_f (by omega) (law01_light_ret.intro rfl))⟩
theorem light_any (l : List Fd) : (Light l ∧ law01_light l (fun x => x = true)) ∨ law01_light l (fun x => x = false) := by
  by_cases h : (l.length : Int) > 200
  · exact .inr (law01_light_step _ (Br_t h (law01_light_ret.intro rfl)))
  · rcases light_l l (by omega) l.length 0 (by omega) (by omega) with ⟨h1, h2⟩ | h2
    · exact .inl ⟨⟨by omega, h1⟩, law01_light_step _ (Br_f h h2)⟩
    · exact .inr (law01_light_step _ (Br_f h h2))

theorem plain_l (l : List Fd) (hl : l.length ≤ 1000000) : ∀ (k i : Nat) {Q : List eR0.T → Prop}, l.length - i ≤ k → i ≤ l.length → Q l → law01_plain_l1 (l.take i) l (i : Int) Q := by
  intro k
  induction k with
  | zero =>
    intro i Q hk hi hQ
    refine law01_plain_l1_step _ _ _ (Br_f (by omega) (law01_plain_ret.intro ?_))
    rw [List.take_of_length_le (by omega)]; exact hQ
  | succ k ih =>
    intro i Q hk hi hQ
    by_cases hlt : i < l.length
    · have hr : rd eR0 l (i : Int).toNat = l[i] := by rw [Int.toNat_natCast]; exact rd_get hlt
      refine law01_plain_l1_step _ _ _ (Br_t (by omega) ⟨⟨by omega, by omega⟩, ⟨rfl, by simp; omega⟩, ?_⟩)
      rw [hr, addK_i64 (by omega), List.take_append_getElem hlt]
      exact ih (i + 1) (by omega) (by omega) hQ
    · refine law01_plain_l1_step _ _ _ (Br_f (by omega) (law01_plain_ret.intro ?_))
      rw [List.take_of_length_le (by omega)]; exact hQ
theorem plain_ev (l : List Fd) (hl : l.length ≤ 1000000) {Q : List eR0.T → Prop} (hQ : Q l) : law01_plain l Q :=
  law01_plain_step _ (plain_l l hl l.length 0 (by omega) (by omega) hQ)

theorem same_l (a b : List Fd) (hab : a.length = b.length) (hl : a.length ≤ 1000000) (ha : ∀ f ∈ a, IsB f.2.2.2) (hb : ∀ f ∈ b, IsB f.2.2.2) : ∀ (k i : Nat) (Q : Bool → Prop), a.length - i ≤ k → i ≤ a.length → Q (decide (a.drop i = b.drop i)) → ref01_Same_l1 a b (i : Int) Q := by
  intro k
  induction k with
  | zero =>
    intro i Q hk hi hQ
    rw [List.drop_of_length_le (by omega), List.drop_of_length_le (by omega)] at hQ
    exact ref01_Same_l1_step _ _ _ (Br_f (by omega) (ref01_Same_ret.intro hQ))
  | succ k ih =>
    intro i Q hk hi hQ
    by_cases hlt : i < a.length
    · have hlb : i < b.length := by omega
      have hr : rd eR0 a (i : Int).toNat = a[i] := by rw [Int.toNat_natCast]; exact rd_get hlt
      have hs : rd eR0 b (i : Int).toNat = b[i] := by rw [Int.toNat_natCast]; exact rd_get hlb
      have hfa := ha _ (List.getElem_mem hlt)
      have hfb := hb _ (List.getElem_mem hlb)
      rw [List.drop_eq_getElem_cons hlt, List.drop_eq_getElem_cons hlb] at hQ
      generalize a[i] = f at hr hfa hQ
      generalize b[i] = g at hs hfb hQ
      have I1 : (0 : Int) ≤ (i : Int) ∧ (i : Int).toNat < a.length := ⟨by omega, by omega⟩
      have I2 : (0 : Int) ≤ (i : Int) ∧ (i : Int).toNat < b.length := ⟨by omega, by omega⟩
      have no : f ≠ g → Q false := fun h => by
        rwa [decide_eq_false (fun e => h (List.cons.inj e).1)] at hQ
      have nx : addK .i64 (i : Int) 1 = ((i + 1 : Nat) : Int) := by rw [addK_i64 (by omega)]; omega
      refine ref01_Same_l1_step _ _ _ (Br_t (by omega) ⟨I1, I2, ?_⟩)
      rw [hr, hs]
      by_cases h1 : f.1 = g.1
      · refine Br_bf (by rw [h1]; exact bne_self_eq_false _) ⟨I1, I2, ?_⟩
        by_cases h2 : f.2.1 = g.2.1
        · refine Br_bf (by rw [h2]; simp) ⟨I1, I2, ?_⟩
          by_cases h3 : f.2.2.1 = g.2.2.1
          · refine Br_bf (by rw [h3]; exact bne_self_eq_false _) ⟨I1, I2, ?_⟩
            rw [streq_bytes hfa hfb]
            by_cases h4 : f.2.2.2 = g.2.2.2
            · have e : f = g := Prod.ext h1 (Prod.ext h2 (Prod.ext h3 h4))
              refine ref01_Same_k2_step _ _ _ _ (Br_bf (by rw [h4]; simp) ?_)
              rw [nx]
              refine ih (i + 1) Q (by omega) (by omega) ?_
              subst e
              have e2 : decide (f :: a.drop (i + 1) = f :: b.drop (i + 1)) = decide (a.drop (i + 1) = b.drop (i + 1)) := by
                rw [Bool.eq_iff_iff, decide_eq_true_eq, decide_eq_true_eq]
                exact ⟨fun h => (List.cons.inj h).2, fun h => h ▸ rfl⟩
              exact e2 ▸ hQ
            · exact ref01_Same_k2_step _ _ _ _ (Br_bt (by simp [h4]) (ref01_Same_ret.intro (no fun e => h4 (e ▸ rfl))))
          · exact Br_bt (bne_iff_ne.2 h3) (ref01_Same_k2_step _ _ _ _ (Br_bt rfl (ref01_Same_ret.intro (no fun e => h3 (e ▸ rfl)))))
        · exact Br_bt (by simp [h2]) (ref01_Same_k2_step _ _ _ _ (Br_bt rfl (ref01_Same_ret.intro (no fun e => h2 (e ▸ rfl)))))
      · exact Br_bt (bne_iff_ne.2 h1) (ref01_Same_k2_step _ _ _ _ (Br_bt rfl (ref01_Same_ret.intro (no fun e => h1 (e ▸ rfl)))))
    · rw [List.drop_of_length_le (by omega), List.drop_of_length_le (by omega)] at hQ
      exact ref01_Same_l1_step _ _ _ (Br_f (by omega) (ref01_Same_ret.intro hQ))
theorem same_ev (a b : List Fd) (hl : a.length ≤ 1000000) (ha : ∀ f ∈ a, IsB f.2.2.2) (hb : ∀ f ∈ b, IsB f.2.2.2) {Q : Bool → Prop} (hQ : Q (decide (a = b))) : ref01_Same a b Q := by
  by_cases h : a.length = b.length
  · exact ref01_Same_step _ _ (Br_bf (by rw [h]; exact bne_self_eq_false _) (same_l a b h hl ha hb a.length 0 Q (by omega) (by omega) hQ))
  · rw [decide_eq_false (show ¬ a = b from fun e => h (e ▸ rfl))] at hQ
    exact ref01_Same_step _ _ (Br_bt (bne_iff_ne.2 (by omega)) (ref01_Same_ret.intro hQ))

theorem enc1_le {f : Fd} (hg : goodF f = true) (hok : FdOk f) (h : f.2.2.2.length ≤ 2000) : (enc1 f).length ≤ 2020 := by
  obtain ⟨n, hn, ⟨v, rfl⟩ | ⟨t, rfl⟩⟩ := goodF_cases hg
  · show (uenc (2 * n) ++ uenc v).length ≤ 2020
    have := uenc_len10 (v := 2 * n) (by omega)
    have := uenc_len10 (v := v) hok.2.1.2
    simp only [List.length_append]; omega
  · show (uenc (2 * n + 1) ++ uenc t.length ++ t).length ≤ 2020
    have h : t.length ≤ 2000 := h
    have := uenc_len10 (v := 2 * n + 1) (by omega)
    have := uenc_len10 (v := (t.length : Int)) (by omega)
    simp only [List.length_append]; omega
theorem wr_light : ∀ {l : List Fd}, (∀ f ∈ l, FdOk f) → (∀ f ∈ l, f.2.2.2.length ≤ 2000) → (wr l).length ≤ 2020 * l.length := by
  intro l
  induction l with
  | nil => intro _ _; simp [wr]
  | cons f l ih =>
    intro hok h
    have := ih (fun g hg => hok g (List.mem_cons_of_mem _ hg)) (fun g hg => h g (List.mem_cons_of_mem _ hg))
    rw [wr, List.length_append, List.length_cons]
    cases hg : goodF f with
    | true => have := enc1_le hg (hok f (List.mem_cons_self ..)) (h f (List.mem_cons_self ..)); simp only [cond_true]; omega
    | false => simp only [cond_false, List.length_nil]; omega

/-! ### The law FieldBack -/

theorem back_k5 (b : List Int) (hb : IsB b) (hl : b.length ≤ 5000) : law01_FieldBack_k5 b (fun x => x = true) := by
  refine law01_FieldBack_k5_step _ ?_
  rcases read_any b hb (by omega) with ⟨m, rfl, hg, hok⟩ | ⟨e, he, hr⟩
  · have hm := wr_len hg
    refine law01_FieldBack_c6_step _ (0, m) (read_ev m hg hok (by omega) rfl) (Br_bf rfl (Br_bt rfl ?_))
    refine law01_FieldBack_c10_step _ _ (wr m) (write_ev m hok (by omega) (by omega) rfl) ⟨rfl, Br_bt (streq_self _) ?_⟩
    exact law01_FieldBack_c11_step _ _ _ true (lives_ev rfl) (law01_FieldBack_ret.intro rfl)
  · refine law01_FieldBack_c6_step _ (e, []) hr (Br_bt (bne_iff_ne.2 he) (Br_bt rfl ?_))
    exact law01_FieldBack_c7_step _ _ true (lives_ev rfl) (law01_FieldBack_ret.intro rfl)

theorem back_l3 (l : List Fd) (b : List Int) (hL : Light l) (hok : ∀ f ∈ l, FdOk f) (hb : IsB b) (hl : b.length ≤ 5000) : ∀ (k i : Nat), l.length - i ≤ k → i ≤ l.length → law01_FieldBack_l3 l b ((l.take i).filter goodF) (i : Int) (fun x => x = true) := by
  have h200 := hL.1
  have hw := wr_light hok hL.2
  have fin : ∀ i, l.length ≤ i → law01_FieldBack_c4 b ((l.take i).filter goodF) l (fun x => x = true) := by
    intro i hi
    rw [List.take_of_length_le hi]
    refine law01_FieldBack_c4_step _ _ _ (wr l) (write_ev l hok (by omega) (by omega) rfl) ⟨rfl, ?_⟩
    have hg : ∀ f ∈ l.filter goodF, goodF f = true := fun f hf => (List.mem_filter.1 hf).2
    have hok' : ∀ f ∈ l.filter goodF, FdOk f := fun f hf => hok f (List.mem_filter.1 hf).1
    have hlen : (l.filter goodF).length ≤ l.length := List.length_filter_le ..
    have hB : ∀ f ∈ l.filter goodF, IsB f.2.2.2 := fun f hf => (hok' f hf).2.2.1
    have hL' : ∀ f ∈ l.filter goodF, f.2.2.2.length ≤ 2000 := fun f hf => hL.2 f (List.mem_filter.1 hf).1
    rw [← wr_filter l]
    generalize l.filter goodF = m at hg hok' hlen hB hL' ⊢
    have hw' : (wr m).length ≤ 600000 := by
      have := wr_light hok' hL'
      omega
    refine law01_FieldBack_c5_step _ _ _ (0, m) (read_ev m hg hok' hw' rfl) (Br_bf rfl ⟨rfl, ?_⟩)
    refine law01_FieldBack_c12_step _ _ _ m (plain_ev m (by omega) rfl) ⟨rfl, law01_FieldBack_c13_step _ _ _ m (plain_ev m (by omega) rfl) ⟨⟨rfl, rfl⟩, ?_⟩⟩
    refine law01_FieldBack_c14_step _ _ _ true (same_ev m m (by omega) hB hB (decide_eq_true rfl)) (law01_FieldBack_k4_step _ _ (Br_bf rfl (back_k5 b hb hl)))
  intro k
  induction k with
  | zero => intro i hk hi; exact law01_FieldBack_l3_step _ _ _ _ (Br_f (by omega) (fin i (by omega)))
  | succ k ih =>
    intro i hk hi
    by_cases hlt : i < l.length
    · have hr : rd eR0 l (i : Int).toNat = l[i] := by rw [Int.toNat_natCast]; exact rd_get hlt
      have nx : addK .i64 (i : Int) 1 = ((i + 1 : Nat) : Int) := by rw [addK_i64 (by omega)]; omega
      have hi' := ih (i + 1) (by omega) (by omega)
      rw [← List.take_append_getElem hlt, List.filter_append] at hi'
      refine law01_FieldBack_l3_step _ _ _ _ (Br_t (by omega) ⟨⟨by omega, by omega⟩, law01_FieldBack_c3_step _ _ _ _ (goodF l[i]) (by rw [hr]; exact good_ev _ rfl) ?_⟩)
      cases hg : goodF l[i] with
      | true =>
        rw [List.filter_cons_of_pos hg, List.filter_nil] at hi'
        refine Br_bt rfl ⟨⟨rfl, ?_⟩, ?_⟩
        · have := List.length_filter_le goodF (l.take i)
          have : (l.take i).length ≤ l.length := by simp; omega
          omega
        · rw [hr, nx]; exact hi'
      | false =>
        rw [List.filter_cons_of_neg (by simp [hg]), List.filter_nil, List.append_nil] at hi'
        refine Br_bf rfl ?_
        rw [nx]; exact hi'
    · exact law01_FieldBack_l3_step _ _ _ _ (Br_f (by omega) (fin i (by omega)))

theorem law01_FieldBack_true (l : List eR0.T) (b : List Int) (wl : CT.wf (.sl eR0) l) (wb : CT.wf (.sl (.one (.int .u8))) b) : law01_FieldBack l b (fun x => x = true) := by
  obtain ⟨hb, hl⟩ := isB_of_wf wb
  obtain ⟨-, hok⟩ := fdOk_of_wf wl
  have fin : law01_FieldBack_k1 l b true (fun x => x = true) := law01_FieldBack_k1_step _ _ _ (Br_bt rfl (law01_FieldBack_c2_step true (lives_ev rfl) (law01_FieldBack_ret.intro rfl)))
  refine law01_FieldBack_step _ _ ?_
  rcases light_any l with ⟨hL, h⟩ | h
  · refine law01_FieldBack_c1_step _ _ true h (Br_bf rfl ?_)
    by_cases hlen : (b.length : Int) > 5000
    · rw [decide_eq_true hlen]; exact fin
    · rw [decide_eq_false hlen]
      exact law01_FieldBack_k1_step _ _ _ (Br_bf rfl (law01_FieldBack_k2_step _ _ (back_l3 l b hL hok hb (by omega) l.length 0 (by omega) (by omega))))
  · exact law01_FieldBack_c1_step _ _ false h (Br_bt rfl fin)

/-! ### The law FieldApart -/

theorem apart_l3 (a b : List Fd) (ha : Light a) (hb : Light b) (oa : ∀ f ∈ a, FdOk f) (ob : ∀ f ∈ b, FdOk f) : ∀ (k i : Nat), (a ++ b).length - i ≤ k → i ≤ (a ++ b).length → (∀ f ∈ (a ++ b).take i, goodF f = true) → law01_FieldApart_l3 a b (i : Int) (fun x => x = true) := by
  have h200 := ha.1
  have h201 := hb.1
  have hlab : (a ++ b).length ≤ 400 := by simp; omega
  have hw := wr_light oa ha.2
  have hw' := wr_light ob hb.2
  have fin : ∀ i : Nat, (a ++ b).length ≤ i → (∀ f ∈ (a ++ b).take i, goodF f = true) → law01_FieldApart_c5 a b (i : Int) (fun x => x = true) := by
    intro i hi hg
    rw [List.take_of_length_le hi] at hg
    have ga : ∀ f ∈ a, goodF f = true := fun f h => hg f (List.mem_append_left _ h)
    have gb : ∀ f ∈ b, goodF f = true := fun f h => hg f (List.mem_append_right _ h)
    refine law01_FieldApart_c5_step _ _ _ (wr a) (write_ev a oa (by omega) (by omega) rfl) ⟨rfl, ?_⟩
    refine law01_FieldApart_c6_step _ _ _ _ (wr b) (write_ev b ob (by omega) (by omega) rfl) ⟨rfl, ?_⟩
    refine law01_FieldApart_c7_step _ _ _ _ _ a (plain_ev a (by omega) rfl) (law01_FieldApart_c8_step _ _ _ _ _ _ b (plain_ev b (by omega) rfl) ?_)
    refine law01_FieldApart_c9_step _ _ _ _ _ _ _ _ (same_ev a b (by omega) (fun f h => (oa f h).2.2.1) (fun f h => (ob f h).2.2.1) rfl) ?_
    rw [streq_bytes (wr_isB oa) (wr_isB ob)]
    refine Br_bt ?_ (law01_FieldApart_c10_step _ _ _ _ _ _ _ _ true (lives_ev rfl) (law01_FieldApart_ret.intro rfl))
    rw [beq_iff_eq, Bool.eq_iff_iff, decide_eq_true_eq, decide_eq_true_eq]
    exact ⟨wr_inj ga gb oa ob, fun h => h ▸ rfl⟩
  intro k
  induction k with
  | zero => intro i hk hi hg; exact law01_FieldApart_l3_step _ _ _ (Br_f (by omega) (fin i (by omega) hg))
  | succ k ih =>
    intro i hk hi hg
    by_cases hlt : i < (a ++ b).length
    · have hr : rd eR0 (a ++ b) (i : Int).toNat = (a ++ b)[i] := by rw [Int.toNat_natCast]; exact rd_get hlt
      have nx : addK .i64 (i : Int) 1 = ((i + 1 : Nat) : Int) := by rw [addK_i64 (by omega)]; omega
      refine law01_FieldApart_l3_step _ _ _ (Br_t (by omega) ⟨⟨by omega, by omega⟩, by omega, law01_FieldApart_c3_step _ _ _ (goodF (a ++ b)[i]) (by rw [hr]; exact good_ev _ rfl) ?_⟩)
      cases hc : goodF (a ++ b)[i] with
      | true =>
        refine Br_bf rfl ?_
        rw [nx]
        refine ih (i + 1) (by omega) (by omega) ?_
        rw [← List.take_append_getElem hlt]
        intro f hf
        rcases List.mem_append.1 hf with hf | hf
        · exact hg f hf
        · rw [List.mem_singleton.1 hf]; exact hc
      | false => exact Br_bt rfl (law01_FieldApart_c4_step true (lives_ev rfl) (law01_FieldApart_ret.intro rfl))
    · exact law01_FieldApart_l3_step _ _ _ (Br_f (by omega) (fin i (by omega) hg))

theorem law01_FieldApart_true (a b : List eR0.T) (wa : CT.wf (.sl eR0) a) (wb : CT.wf (.sl eR0) b) : law01_FieldApart a b (fun x => x = true) := by
  obtain ⟨-, oa⟩ := fdOk_of_wf wa
  obtain ⟨-, ob⟩ := fdOk_of_wf wb
  have fin : law01_FieldApart_k1 a b true (fun x => x = true) := law01_FieldApart_k1_step _ _ _ (Br_bt rfl (law01_FieldApart_c2_step true (lives_ev rfl) (law01_FieldApart_ret.intro rfl)))
  refine law01_FieldApart_step _ _ ?_
  rcases light_any a with ⟨ha, h⟩ | h
  · refine law01_FieldApart_c1_step _ _ true h (Br_bf rfl ?_)
    rcases light_any b with ⟨hb, h'⟩ | h'
    · refine law01_FieldApart_c11_step _ _ true h' (law01_FieldApart_k1_step _ _ _ (Br_bf rfl (law01_FieldApart_k2_step _ _ ⟨?_, ⟨rfl, ?_⟩, ?_⟩)))
      · have := ha.1; omega
      · have := ha.1; have := hb.1; omega
      · exact apart_l3 a b ha hb oa ob _ 0 (Nat.le_refl _) (by omega) (by simp)
    · exact law01_FieldApart_c11_step _ _ false h' fin
  · exact law01_FieldApart_c1_step _ _ false h (Br_bt rfl fin)

end Go.Proofs.Ytjgkmcjdkeifdaa
