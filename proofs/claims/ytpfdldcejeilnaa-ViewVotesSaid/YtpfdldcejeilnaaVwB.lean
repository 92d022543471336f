import Derived.Test.YtpfdldcejeilnaaCodes
import Derived.Test.YtpfdldcejeilnaaFxJ
set_option linter.unusedVariables false
set_option linter.unusedSimpArgs false
namespace Go.Proofs.Ytpfdldcejeilnaa
open Go Go.Fw

theorem rd_get {e : EL} {l : List e.T} {i : Nat} (h : i < l.length) : rd e l i = l[i] := by simp [rd, h]

/-! ### The document's examples -/

theorem nodes_ev (n : Int) {Q : Bool → Prop} (hQ : Q (decide (2 ≤ n ∧ n ≤ 5))) : view_nodes n Q := by
  by_cases h : n ≥ 2
  · refine view_nodes_step _ (Br_t h (view_nodes_ret.intro ?_))
    have e : decide (2 ≤ n ∧ n ≤ 5) = decide (n ≤ 5) := by rw [Bool.eq_iff_iff, decide_eq_true_eq, decide_eq_true_eq]; omega
    exact e ▸ hQ
  · refine view_nodes_step _ (Br_f h (view_nodes_ret.intro ?_))
    rwa [decide_eq_false (by omega)] at hQ
theorem leader_ev (v n : Int) (hv : 0 ≤ v) (hn : 2 ≤ n ∧ n ≤ 5) {Q : Int → Prop} (hQ : Q (v % n + 1)) : view_Leader v n Q := by
  refine view_Leader_step _ _ (Br_f (by omega) (view_Leader_c1_step _ _ true (nodes_ev n (decide_eq_true hn)) (view_Leader_k1_step _ _ _ (Br_bf rfl (view_Leader_k2_step _ _ ⟨by omega, view_Leader_ret.intro ?_⟩)))))
  have := Int.emod_nonneg v (show n ≠ 0 by omega)
  have := Int.emod_lt_of_pos v (show 0 < n by omega)
  rw [remK_nn hv, addK_i64 (by omega), Int.add_comm]; exact hQ
theorem lives_ev {Q : Bool → Prop} (hQ : Q true) : law08_lives Q := by
  refine law08_lives_step (law08_lives_c1_step 2 (leader_ev 4 3 (by decide) (by decide) rfl) (Br_et rfl ?_))
  refine law08_lives_c2_step 3 (view_Quorum_step _ (view_Quorum_c1_step _ true (nodes_ev 4 rfl) (Br_bf rfl ⟨by decide, view_Quorum_ret.intro rfl⟩))) (Br_et rfl ?_)
  refine law08_lives_c3_step 1 (view_Faults_step _ (view_Faults_c1_step _ true (nodes_ev 4 rfl) (Br_bf rfl ⟨by decide, view_Faults_ret.intro rfl⟩))) (Br_et rfl ?_)
  refine law08_lives_c4_step 6 ?_ (law08_lives_ret.intro hQ)
  refine view_Next_step _ _ _ (Br_f (by decide) (Br_f (by decide) ?_))
  refine view_Next_c2_step _ _ _ true (nodes_ev 3 rfl) (Br_bf rfl (Br_f (by decide) ?_))
  refine view_Next_k1_step _ _ _ _ (Br_bf rfl (view_Next_k2_step _ _ _ ?_))
  exact view_Next_c1_step _ _ _ 3 (leader_ev _ 3 (by decide) (by decide) rfl) ⟨by decide, view_Next_ret.intro rfl⟩

/-! ### How many steps a message has -/

theorem weigh_l (o : eR2.T) (most : Int) (h : o.2.2.2.2.1.length ≤ maxLen) : ∀ (k i : Nat) (n : Int), o.2.2.2.2.1.length - i ≤ k → i ≤ o.2.2.2.2.1.length → ∃ r, ref04_weigh_l1 most n o (i : Int) (fun x => x = r) := by
  have hm : maxLen = 9223372036854775807 := by decide
  intro k
  induction k with
  | zero => intro i n hk hi; exact ⟨n, ref04_weigh_l1_step _ _ _ _ (Br_f (by omega) (ref04_weigh_ret.intro rfl))⟩
  | succ k ih =>
    intro i n hk hi
    by_cases hlt : i < o.2.2.2.2.1.length
    · by_cases hc : (addK .i64 n (addK .i64 1 (quoK .i64 (((rd eR1 o.2.2.2.2.1 (i : Int).toNat).1).size : Int) 20))) > most
      · exact ⟨_, ref04_weigh_l1_step _ _ _ _ (Br_t (by omega) ⟨⟨by omega, by omega⟩, by decide, Br_t hc (ref04_weigh_ret.intro rfl)⟩)⟩
      · obtain ⟨r, hr⟩ := ih (i + 1) (addK .i64 n (addK .i64 1 (quoK .i64 (((rd eR1 o.2.2.2.2.1 (i : Int).toNat).1).size : Int) 20))) (by omega) (by omega)
        refine ⟨r, ref04_weigh_l1_step _ _ _ _ (Br_t (by omega) ⟨⟨by omega, by omega⟩, by decide, Br_f hc ?_⟩)⟩
        have nx : addK .i64 (i : Int) 1 = ((i + 1 : Nat) : Int) := by rw [addK_i64 (by omega)]; omega
        rw [nx]; exact hr
    · exact ⟨n, ref04_weigh_l1_step _ _ _ _ (Br_f (by omega) (ref04_weigh_ret.intro rfl))⟩
theorem weigh_any (o : eR2.T) (most : Int) (h : o.2.2.2.2.1.length ≤ maxLen) : ∃ r, ref04_weigh o most (fun x => x = r) := by
  obtain ⟨r, hr⟩ := weigh_l o most h _ 0 (addK .i64 1 (quoK .i64 (o.2.2.2.1.size : Int) 20)) (Nat.le_refl _) (Nat.zero_le _)
  exact ⟨r, ref04_weigh_step _ _ ⟨by decide, hr⟩⟩

/-- The operations of a message. -/
abbrev ops (m : eR0.T) : List eR2.T := m.2.2.2.2.2.2.2.2.2.2.2.2.2.2.2.2.2.2.2.2.2.2.2.2.2.2.2.2.2.2.2.2.1
theorem steps_l (m : eR0.T) (most : Int) (h : m.2.2.2.2.2.2.2.2.2.2.2.2.2.2.2.2.2.2.2.2.2.2.2.2.2.2.2.2.2.2.2.2.1.length ≤ maxLen) (ho : ∀ o ∈ m.2.2.2.2.2.2.2.2.2.2.2.2.2.2.2.2.2.2.2.2.2.2.2.2.2.2.2.2.2.2.2.2.1, o.2.2.2.2.1.length ≤ maxLen) : ∀ (k i : Nat) (n : Int), m.2.2.2.2.2.2.2.2.2.2.2.2.2.2.2.2.2.2.2.2.2.2.2.2.2.2.2.2.2.2.2.2.1.length - i ≤ k → i ≤ m.2.2.2.2.2.2.2.2.2.2.2.2.2.2.2.2.2.2.2.2.2.2.2.2.2.2.2.2.2.2.2.2.1.length → ∃ r, ref04_Steps_l1 most n m (i : Int) (fun x => x = r) := by
  have hm : maxLen = 9223372036854775807 := by decide
  intro k
  induction k with
  | zero => intro i n hk hi; exact ⟨n, ref04_Steps_l1_step _ _ _ _ (Br_f (by omega) (ref04_Steps_ret.intro rfl))⟩
  | succ k ih =>
    intro i n hk hi
    by_cases hlt : i < m.2.2.2.2.2.2.2.2.2.2.2.2.2.2.2.2.2.2.2.2.2.2.2.2.2.2.2.2.2.2.2.2.1.length
    · by_cases hc : n > most
      · exact ⟨n, ref04_Steps_l1_step _ _ _ _ (Br_t (by omega) ⟨⟨by omega, by omega⟩, Br_t hc (ref04_Steps_ret.intro rfl)⟩)⟩
      · have hr : rd eR2 m.2.2.2.2.2.2.2.2.2.2.2.2.2.2.2.2.2.2.2.2.2.2.2.2.2.2.2.2.2.2.2.2.1 (i : Int).toNat = m.2.2.2.2.2.2.2.2.2.2.2.2.2.2.2.2.2.2.2.2.2.2.2.2.2.2.2.2.2.2.2.2.1[i] := by rw [Int.toNat_natCast]; exact rd_get hlt
        obtain ⟨w, hw⟩ := weigh_any (rd eR2 m.2.2.2.2.2.2.2.2.2.2.2.2.2.2.2.2.2.2.2.2.2.2.2.2.2.2.2.2.2.2.2.2.1 (i : Int).toNat) most (by rw [hr]; exact ho _ (List.getElem_mem hlt))
        obtain ⟨r, hr⟩ := ih (i + 1) (addK .i64 n (addK .i64 1 w)) (by omega) (by omega)
        refine ⟨r, ref04_Steps_l1_step _ _ _ _ (Br_t (by omega) ⟨⟨by omega, by omega⟩, Br_f hc (ref04_Steps_c2_step _ _ _ _ w hw ?_)⟩)⟩
        have nx : addK .i64 (i : Int) 1 = ((i + 1 : Nat) : Int) := by rw [addK_i64 (by omega)]; omega
        rw [nx]; exact hr
    · exact ⟨n, ref04_Steps_l1_step _ _ _ _ (Br_f (by omega) (ref04_Steps_ret.intro rfl))⟩
theorem steps_any (m : eR0.T) (most : Int) (w : EL.wf eR0 m) : ∃ r, ref04_Steps m most (fun x => x = r) := by
  have h1 : CT.wf (.sl eR2) m.2.2.2.2.2.2.2.2.2.2.2.2.2.2.2.2.2.2.2.2.2.2.2.2.2.2.2.2.2.2.2.2.1 := w.2.2.2.2.2.2.2.2.2.2.2.2.2.2.2.2.2.2.2.2.2.2.2.2.2.2.2.2.2.2.2.2.1
  have h2 : CT.wf (.sl eR1) m.2.2.2.2.2.2.2.2.2.2.2.2.2.2.2.2.1 := w.2.2.2.2.2.2.2.2.2.2.2.2.2.2.2.2.1
  have ho : ∀ o ∈ m.2.2.2.2.2.2.2.2.2.2.2.2.2.2.2.2.2.2.2.2.2.2.2.2.2.2.2.2.2.2.2.2.1, o.2.2.2.2.1.length ≤ maxLen := fun o h => by
    have h3 : CT.wf (.sl eR1) o.2.2.2.2.1 := (h1.2 o h).2.2.2.2.1
    exact h3.1
  obtain ⟨n, hn⟩ := weigh_any (m.2.2.2.2.2.2.2.2.2.2.2.2.1, m.2.2.2.2.2.2.2.2.2.2.2.2.2.1, m.2.2.2.2.2.2.2.2.2.2.2.2.2.2.1, m.2.2.2.2.2.2.2.2.2.2.2.2.2.2.2.1, m.2.2.2.2.2.2.2.2.2.2.2.2.2.2.2.2.1, m.2.2.2.2.2.2.2.2.2.2.2.2.2.2.2.2.2.1, m.2.2.2.2.2.2.2.2.2.2.2.2.2.2.2.2.2.2.1, m.2.2.2.2.2.2.2.2.2.2.2.2.2.2.2.2.2.2.2.1, m.2.2.2.2.2.2.2.2.2.2.2.2.2.2.2.2.2.2.2.2.1, m.2.2.2.2.2.2.2.2.2.2.2.2.2.2.2.2.2.2.2.2.2.1) most h2.1
  obtain ⟨r, hr⟩ := steps_l m most h1.1 ho _ 0 n (Nat.le_refl _) (Nat.zero_le _)
  exact ⟨r, ref04_Steps_step _ _ (ref04_Steps_c1_step _ _ n hn hr)⟩

/-! ### Whose log goes on -/

theorem cmp_ev (x y : Int) {Q : Int → Prop} (hQ : Q (if x < y then -1 else if y < x then 1 else 0)) : cmp_Compare_int x y Q := by
  have nn : ∀ z : Int, cmp_isNaN_int z (fun x => x = false) := fun z => cmp_isNaN_int_step _ (cmp_isNaN_int_ret.intro (bne_self_eq_false z))
  refine cmp_Compare_int_step _ _ (cmp_Compare_int_c1_step _ _ false (nn x) (cmp_Compare_int_c2_step _ _ _ false (nn y) (Br_bf rfl (Br_bf rfl ?_))))
  by_cases h : x < y
  · rw [if_pos h] at hQ; exact Br_t h (cmp_Compare_int_ret.intro hQ)
  · rw [if_neg h] at hQ
    refine Br_f h ?_
    by_cases h' : y < x
    · rw [if_pos h'] at hQ; exact Br_t h' (cmp_Compare_int_ret.intro hQ)
    · rw [if_neg h'] at hQ; exact Br_f h' (cmp_Compare_int_ret.intro hQ)
theorem or_ev (x y : Int) {Q : Int → Prop} (hQ : Q (if x = 0 then y else x)) : cmp_Or_int x y Q := by
  refine cmp_Or_int_step _ _ ⟨by decide, ?_⟩
  by_cases h : x = 0
  · rw [if_pos h] at hQ
    refine Br_bf (by rw [h]; rfl) ⟨by decide, ?_⟩
    by_cases h' : y = 0
    · rw [h'] at hQ ⊢; exact Br_bf rfl (cmp_Or_int_ret.intro hQ)
    · exact Br_bt (bne_iff_ne.2 h') (cmp_Or_int_ret.intro hQ)
  · rw [if_neg h] at hQ
    exact Br_bt (bne_iff_ne.2 h) (cmp_Or_int_ret.intro hQ)
def better (a b : eR0.T) : Bool := decide (a.2.2.2.2.1 > b.2.2.2.2.1) || (a.2.2.2.2.1 == b.2.2.2.2.1 && decide (((ops a).length : Int) > ((ops b).length : Int)))
theorem better_ev (a b : eR0.T) {Q : Bool → Prop} (hQ : Q (better a b)) : view_Choose_f1 a b Q := by
  unfold better at hQ
  have e : ∀ x y p q : Int, decide ((if (if x < y then (-1 : Int) else if y < x then 1 else 0) = 0 then (if p < q then (-1 : Int) else if q < p then 1 else 0) else (if x < y then (-1 : Int) else if y < x then 1 else 0)) > 0) = (decide (x > y) || (x == y && decide (p > q))) := by
    intro x y p q
    rw [Bool.eq_iff_iff]
    simp only [Bool.or_eq_true, Bool.and_eq_true, decide_eq_true_eq, beq_iff_eq]
    split <;> split <;> (try split) <;> (try split) <;> omega
  refine view_Choose_f1_step _ _ (view_Choose_f1_c1_step _ _ _ (cmp_ev _ _ rfl) (view_Choose_f1_c2_step _ _ _ _ (cmp_ev _ _ rfl) (view_Choose_f1_c3_step _ _ _ _ _ (or_ev _ _ rfl) (view_Choose_f1_ret.intro ?_))))
  rw [e]; exact hQ

theorem choose_l (l : List eR0.T) (hl : l.length ≤ 60) : ∀ (k i : Nat) (best : Int), l.length - i ≤ k → i ≤ l.length → -1 ≤ best → best < i → ∃ r, view_Choose_l1 l best (i : Int) (fun x => x = r) ∧ ref08_Choose_l1 l best (i : Int) (fun x => x = r) := by
  have fin : ∀ (best : Int) (i : Nat), l.length ≤ i → -1 ≤ best → ∃ r, view_Choose_l1 l best (i : Int) (fun x => x = r) ∧ ref08_Choose_l1 l best (i : Int) (fun x => x = r) := by
    intro best i hi hb
    by_cases h : best < 0
    · have hb : best = -1 := by omega
      subst hb
      exact ⟨(0, false), view_Choose_l1_step _ _ _ (Br_f (by omega) (view_Choose_ret.intro rfl)), ref08_Choose_l1_step _ _ _ (Br_f (by omega) (Br_t h (ref08_Choose_ret.intro rfl)))⟩
    · refine ⟨(best, true), view_Choose_l1_step _ _ _ (Br_f (by omega) (view_Choose_ret.intro ?_)), ref08_Choose_l1_step _ _ _ (Br_f (by omega) (Br_f h (ref08_Choose_ret.intro rfl)))⟩
      rw [decide_eq_true (show best ≥ 0 by omega)]
      have : maxI best 0 = best := by unfold maxI; split <;> omega
      rw [this]
  intro k
  induction k with
  | zero => intro i best hk hi hb hbi; exact fin best i (by omega) hb
  | succ k ih =>
    intro i best hk hi hb hbi
    by_cases hlt : i < l.length
    · have nx : addK .i64 (i : Int) 1 = ((i + 1 : Nat) : Int) := by rw [addK_i64 (by omega)]; omega
      have I1 : (0 : Int) ≤ (i : Int) ∧ (i : Int).toNat < l.length := ⟨by omega, by omega⟩
      obtain ⟨r, hr1, hr2⟩ := ih (i + 1) best (by omega) (by omega) hb (by omega)
      obtain ⟨s, hs1, hs2⟩ := ih (i + 1) (i : Int) (by omega) (by omega) (by omega) (by omega)
      have old : (view_Choose_k2 l best (i : Int) false (fun x => x = r)) ∧ (ref08_Choose_k2 l best (i : Int) false (fun x => x = r)) :=
        ⟨view_Choose_k2_step _ _ _ _ (Br_bf rfl (nx ▸ hr1)), ref08_Choose_k2_step _ _ _ _ (Br_bf rfl (nx ▸ hr2))⟩
      have new : (view_Choose_k2 l best (i : Int) true (fun x => x = s)) ∧ (ref08_Choose_k2 l best (i : Int) true (fun x => x = s)) :=
        ⟨view_Choose_k2_step _ _ _ _ (Br_bt rfl (nx ▸ hs1)), ref08_Choose_k2_step _ _ _ _ (Br_bt rfl (nx ▸ hs2))⟩
      by_cases h7 : (rd eR0 l (i : Int).toNat).1 = (7 : Int)
      · by_cases h0 : best < 0
        · exact ⟨s, view_Choose_l1_step _ _ _ (Br_t (by omega) ⟨I1, Br_et h7 (Br_t h0 new.1)⟩), ref08_Choose_l1_step _ _ _ (Br_t (by omega) ⟨I1, Br_bf (by rw [h7]; rfl) (Br_t h0 new.2)⟩)⟩
        · have I2 : 0 ≤ best ∧ best.toNat < l.length := ⟨by omega, by omega⟩
          cases hbt : better (rd eR0 l (i : Int).toNat) (rd eR0 l best.toNat) with
          | true =>
            refine ⟨s, view_Choose_l1_step _ _ _ (Br_t (by omega) ⟨I1, Br_et h7 (Br_f h0 ⟨I2, view_Choose_c1_step _ _ _ true (better_ev _ _ hbt) new.1⟩)⟩), ref08_Choose_l1_step _ _ _ (Br_t (by omega) ⟨I1, Br_bf (by rw [h7]; rfl) (Br_f h0 ⟨I2, ?_⟩)⟩)⟩
            unfold better at hbt
            simp only [Bool.or_eq_true, Bool.and_eq_true, decide_eq_true_eq, beq_iff_eq] at hbt
            by_cases hg : (rd eR0 l (i : Int).toNat).2.2.2.2.1 > (rd eR0 l best.toNat).2.2.2.2.1
            · exact Br_t hg new.2
            · have h2 := hbt.resolve_left hg
              refine Br_f hg ⟨I2, Br_et h2.1 ⟨I2, ?_⟩⟩
              rw [decide_eq_true h2.2]; exact new.2
          | false =>
            refine ⟨r, view_Choose_l1_step _ _ _ (Br_t (by omega) ⟨I1, Br_et h7 (Br_f h0 ⟨I2, view_Choose_c1_step _ _ _ false (better_ev _ _ hbt) old.1⟩)⟩), ref08_Choose_l1_step _ _ _ (Br_t (by omega) ⟨I1, Br_bf (by rw [h7]; rfl) (Br_f h0 ⟨I2, ?_⟩)⟩)⟩
            unfold better at hbt
            simp only [Bool.or_eq_false_iff, Bool.and_eq_false_iff, decide_eq_false_iff_not, beq_eq_false_iff_ne] at hbt
            refine Br_f hbt.1 ⟨I2, ?_⟩
            by_cases he : (rd eR0 l (i : Int).toNat).2.2.2.2.1 = (rd eR0 l best.toNat).2.2.2.2.1
            · refine Br_et he ⟨I2, ?_⟩
              rw [decide_eq_false (hbt.2.resolve_left (fun h => h he))]; exact old.2
            · exact Br_ef he old.2
      · refine ⟨r, view_Choose_l1_step _ _ _ (Br_t (by omega) ⟨I1, Br_ef h7 old.1⟩), ref08_Choose_l1_step _ _ _ (Br_t (by omega) ⟨I1, Br_bt (bne_iff_ne.2 h7) (nx ▸ hr2)⟩)⟩
    · exact fin best i (by omega) hb

theorem chooses_l (l : List eR0.T) (hl : l.length ≤ 60) (w : ∀ m ∈ l, EL.wf eR0 m) : ∀ (k i : Nat), l.length - i ≤ k → i ≤ l.length → law08_ViewChooses_l1 l (i : Int) (fun x => x = true) := by
  have fin : law08_ViewChooses_c4 l (fun x => x = true) := by
    obtain ⟨r, h1, h2⟩ := choose_l l hl l.length 0 (-1) (by omega) (by omega) (by omega) (by omega)
    refine law08_ViewChooses_c4_step _ r (view_Choose_step _ h1) (law08_ViewChooses_c5_step _ _ r (ref08_Choose_step _ h2) (Br_et rfl (Br_bt (beq_self_eq_true _) ?_)))
    exact law08_ViewChooses_c6_step true (lives_ev rfl) (law08_ViewChooses_ret.intro rfl)
  intro k
  induction k with
  | zero => intro i hk hi; exact law08_ViewChooses_l1_step _ _ (Br_f (by omega) fin)
  | succ k ih =>
    intro i hk hi
    by_cases hlt : i < l.length
    · have hr : rd eR0 l (i : Int).toNat = l[i] := by rw [Int.toNat_natCast]; exact rd_get hlt
      obtain ⟨n, hn⟩ := steps_any (rd eR0 l (i : Int).toNat) 200 (by rw [hr]; exact w _ (List.getElem_mem hlt))
      refine law08_ViewChooses_l1_step _ _ (Br_t (by omega) ⟨⟨by omega, by omega⟩, law08_ViewChooses_c2_step _ _ n hn ?_⟩)
      by_cases hc : n > 200
      · exact Br_t hc (law08_ViewChooses_c3_step true (lives_ev rfl) (law08_ViewChooses_ret.intro rfl))
      · refine Br_f hc ?_
        rw [addK_i64 (by omega)]; exact ih (i + 1) (by omega) (by omega)
    · exact law08_ViewChooses_l1_step _ _ (Br_f (by omega) fin)

theorem law08_ViewChooses_true (l : List eR0.T) (w : CT.wf (.sl eR0) l) : law08_ViewChooses l (fun x => x = true) := by
  by_cases h : (l.length : Int) > 60
  · exact law08_ViewChooses_step _ (Br_t h (law08_ViewChooses_c1_step true (lives_ev rfl) (law08_ViewChooses_ret.intro rfl)))
  · exact law08_ViewChooses_step _ (Br_f h (chooses_l l (by omega) w.2 l.length 0 (by omega) (by omega)))

end Go.Proofs.Ytpfdldcejeilnaa
