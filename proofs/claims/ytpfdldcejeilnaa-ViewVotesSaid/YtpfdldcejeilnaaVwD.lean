import Derived.Test.YtpfdldcejeilnaaVwC
set_option linter.unusedVariables false
set_option linter.unusedSimpArgs false
namespace Go.Proofs.Ytpfdldcejeilnaa
open Go Go.Fw

/-- The nodes of a set. -/
def lst (x : Nat) : List Int := (List.range 6).filterMap fun i => if bit x i then some (i : Int) else none

theorem rdI_get {b : List Int} {i : Nat} (h : i < b.length) : rdI b i = b[i] := by simp [rdI, h]
theorem rhas_l (v : eR4.T) (node : Int) (hl : v.2.length ≤ 1000) : ∀ (k i : Nat) {Q : Bool → Prop}, v.2.length - i ≤ k → i ≤ v.2.length → Q ((v.2.drop i).contains node) → ref08_Votes_Has_l1 node v (i : Int) Q := by
  intro k
  induction k with
  | zero =>
    intro i Q hk hi hQ
    rw [List.drop_of_length_le (by omega)] at hQ
    exact ref08_Votes_Has_l1_step _ _ _ (Br_f (by omega) (ref08_Votes_Has_ret.intro hQ))
  | succ k ih =>
    intro i Q hk hi hQ
    by_cases hlt : i < v.2.length
    · have hr : rdI v.2 (i : Int).toNat = v.2[i] := by rw [Int.toNat_natCast]; exact rdI_get hlt
      rw [List.drop_eq_getElem_cons hlt, List.contains_cons] at hQ
      refine ref08_Votes_Has_l1_step _ _ _ (Br_t (by omega) ⟨⟨by omega, by omega⟩, ?_⟩)
      rw [hr]
      by_cases h : v.2[i] = node
      · have : (node == v.2[i]) = true := beq_iff_eq.2 h.symm
        rw [this, Bool.true_or] at hQ
        exact Br_et h (ref08_Votes_Has_ret.intro hQ)
      · have : (node == v.2[i]) = false := beq_eq_false_iff_ne.2 fun e => h e.symm
        rw [this, Bool.false_or] at hQ
        refine Br_ef h ?_
        rw [addK_i64 (by omega)]; exact ih (i + 1) (by omega) (by omega) hQ
    · rw [List.drop_of_length_le (by omega)] at hQ
      exact ref08_Votes_Has_l1_step _ _ _ (Br_f (by omega) (ref08_Votes_Has_ret.intro hQ))
theorem rhas_ev (n node : Int) (l : List Int) (hl : l.length ≤ 1000) {Q : Bool → Prop} (hQ : Q (l.contains node)) : ref08_Votes_Has (n, l) node Q :=
  ref08_Votes_Has_step _ _ (rhas_l (n, l) node hl _ 0 (Nat.le_refl _) (Nat.zero_le _) hQ)

def ins : Nat → List Int → List Int
  | 0, l => l
  | i + 1, l => if rdI l i > rdI l (i + 1) then ins i ((l.set i (rdI l (i + 1))).set (i + 1) (rdI l i)) else l
theorem ins_l (v : eR4.T) : ∀ (i : Nat) (l : List Int) {Q : Bool × eR4.T → Prop}, i < l.length → l.length ≤ 1000 → Q (true, (v.1, ins i l)) → ref08_Votes_Add_l3 l (i : Int) v Q := by
  intro i
  induction i with
  | zero => intro l Q hi hl hQ; exact ref08_Votes_Add_l3_step _ _ _ (Br_f (by decide) (ref08_Votes_Add_k4_step _ _ _ _ (Br_bf rfl ⟨rfl, ref08_Votes_Add_ret.intro hQ⟩)))
  | succ i ih =>
    intro l Q hi hl hQ
    have hs : subK .i64 ((i + 1 : Nat) : Int) 1 = (i : Int) := by rw [subK_i64 (by omega)]; omega
    have t1 : ((i + 1 : Nat) : Int).toNat = i + 1 := by omega
    have t2 : (i : Int).toNat = i := by omega
    refine ref08_Votes_Add_l3_step _ _ _ (Br_t (by omega) ?_)
    rw [hs, t1, t2]
    refine ⟨⟨by omega, by omega⟩, by omega, ⟨by omega, by omega⟩, by omega, ?_⟩
    rw [ins] at hQ
    by_cases h : rdI l i > rdI l (i + 1)
    · rw [if_pos h] at hQ
      rw [decide_eq_true h]
      refine ref08_Votes_Add_k4_step _ _ _ _ (Br_bt rfl (ref08_Votes_Add_k5_step _ _ _ ?_))
      rw [hs, t1, t2]
      refine ⟨⟨by omega, by omega⟩, by omega, ⟨by omega, by omega⟩, by omega, ⟨by omega, by omega⟩, by omega, ⟨by omega, by omega⟩, by simp; omega, by simp, ?_⟩
      exact ih _ (by simp; omega) (by simp; omega) hQ
    · rw [if_neg h] at hQ
      rw [decide_eq_false h]
      exact ref08_Votes_Add_k4_step _ _ _ _ (Br_bf rfl ⟨rfl, ref08_Votes_Add_ret.intro hQ⟩)

theorem lst_len : ∀ x : Fin 64, ((lst x.val).length : Int) = ((pop x.val : Nat) : Int) ∧ (lst x.val).length ≤ 6 := by decide +kernel
theorem lst_has : ∀ (x : Fin 64) (i : Fin 6), (lst x.val).contains ((i.val : Nat) : Int) = bit x.val i.val := by decide +kernel
theorem lst_rng : ∀ x : Fin 64, ∀ a ∈ lst x.val, 0 ≤ a ∧ a ≤ 5 ∧ bit x.val a.toNat = true := by decide +kernel
theorem lst_ins : ∀ (x : Fin 64) (i : Fin 6), bit x.val i.val = false → ins (lst x.val).length (lst x.val ++ [((i.val : Nat) : Int)]) = lst (x.val + 2 ^ i.val) := by decide +kernel
theorem bit_add : ∀ (x : Fin 64) (i : Fin 6), bit x.val i.val = false → orK .u64 ((x.val : Nat) : Int) (shlK .u64 1 ((i.val : Nat) : Int)) = ((x.val + 2 ^ i.val : Nat) : Int) ∧ bit (x.val + 2 ^ i.val) i.val = true := by decide +kernel
theorem bit_grow : ∀ (x : Fin 64) (i n : Fin 6), bit x.val i.val = false → i.val ≤ n.val → x.val < 2 ^ (n.val + 1) → x.val + 2 ^ i.val < 2 ^ (n.val + 1) := by decide +kernel
theorem bit_hi : ∀ (x : Fin 64) (i n : Fin 6), x.val < 2 ^ (n.val + 1) → n.val < i.val → bit x.val i.val = false := by decide +kernel
theorem bit_0 : ∀ x : Fin 64, x.val % 2 = 0 → bit x.val 0 = false := by decide +kernel

theorem ints_l (a : List Int) (hl : a.length ≤ 1000) : ∀ (k i : Nat), a.length - i ≤ k → i ≤ a.length → ref01_Ints_l1 a a (i : Int) (fun r => r = true) := by
  intro k
  induction k with
  | zero => intro i hk hi; exact ref01_Ints_l1_step _ _ _ (Br_f (by omega) (ref01_Ints_ret.intro rfl))
  | succ k ih =>
    intro i hk hi
    by_cases hlt : i < a.length
    · refine ref01_Ints_l1_step _ _ _ (Br_t (by omega) ⟨⟨by omega, by omega⟩, ⟨by omega, by omega⟩, Br_bf (bne_self_eq_false _) ?_⟩)
      rw [addK_i64 (by omega)]; exact ih (i + 1) (by omega) (by omega)
    · exact ref01_Ints_l1_step _ _ _ (Br_f (by omega) (ref01_Ints_ret.intro rfl))
theorem ints_ev (a : List Int) (hl : a.length ≤ 1000) : ref01_Ints a a (fun r => r = true) :=
  ref01_Ints_step _ _ (Br_bf (bne_self_eq_false _) (ints_l a hl _ 0 (Nat.le_refl _) (Nat.zero_le _)))

def below (x i : Nat) : List Int := (List.range i).filterMap fun i => if bit x i then some (i : Int) else none
theorem below_succ (x i : Nat) : below x (i + 1) = below x i ++ (if bit x i then [(i : Int)] else []) := by
  unfold below
  rw [List.range_succ, List.filterMap_append]
  cases h : bit x i <;> simp [h]
theorem below_all : ∀ (x : Fin 64) (n : Fin 6), x.val < 2 ^ (n.val + 1) → below x.val (n.val + 1) = lst x.val := by decide +kernel
theorem below_len (x i : Nat) : (below x i).length ≤ i := by
  unfold below
  exact Nat.le_trans (List.length_filterMap_le ..) (by simp)
theorem nodes_l (n : Nat) (hn : 2 ≤ n ∧ n ≤ 5) (x : Nat) (hx : x < 64) (ex : x % 2 = 0) : ∀ (k i : Nat) {Q : List Int → Prop}, n + 1 - i ≤ k → i ≤ n + 1 → Q (below x (n + 1)) → view_Votes_Nodes_l1 (below x i) ((n : Int), (x : Int)) (i : Int) Q := by
  have h1 : addK .i64 (n : Int) 1 = ((n + 1 : Nat) : Int) := by rw [addK_i64 (by omega)]; omega
  intro k
  induction k with
  | zero =>
    intro i Q hk hi hQ
    have : i = n + 1 := by omega
    subst this
    exact view_Votes_Nodes_l1_step _ _ _ (Br_f (by simp only [h1]; omega) (view_Votes_Nodes_ret.intro hQ))
  | succ k ih =>
    intro i Q hk hi hQ
    by_cases hlt : i ≤ n
    · have nx : addK .i64 (i : Int) 1 = ((i + 1 : Nat) : Int) := by rw [addK_i64 (by omega)]; omega
      have hb : view_Votes_Has ((n : Int), (x : Int)) (i : Int) (fun r => r = bit x i) := by
        by_cases h0 : 1 ≤ i
        · exact has_ev n x i h0 (by omega) rfl
        · have : i = 0 := by omega
          subst this
          rw [bit_0 ⟨x, hx⟩ ex]
          exact view_Votes_Has_step _ _ (Br_f (by decide) (view_Votes_Has_ret.intro rfl))
      refine view_Votes_Nodes_l1_step _ _ _ (Br_t (by simp only [h1]; omega) (view_Votes_Nodes_c1_step _ _ _ _ hb ?_))
      have hs := below_succ x i
      have hi' := fun {Q} => ih (i + 1) (Q := Q) (by omega) (by omega)
      rw [hs] at hi'
      have hl := below_len x i
      cases hbi : bit x i with
      | true =>
        rw [hbi] at hi'
        refine Br_bt rfl ⟨⟨rfl, by omega⟩, ?_⟩
        rw [nx]; exact hi' hQ
      | false =>
        rw [hbi] at hi'
        simp only [Bool.false_eq_true, if_false, List.append_nil] at hi'
        refine Br_bf rfl ?_
        rw [nx]; exact hi' hQ
    · have : i = n + 1 := by omega
      subst this
      exact view_Votes_Nodes_l1_step _ _ _ (Br_f (by simp only [h1]; omega) (view_Votes_Nodes_ret.intro hQ))
theorem vnodes_ev (n : Nat) (hn : 2 ≤ n ∧ n ≤ 5) (x : Nat) (hx : x < 2 ^ (n + 1)) (h64 : x < 64) (ex : x % 2 = 0) {Q : List Int → Prop} (hQ : Q (lst x)) : view_Votes_Nodes ((n : Int), (x : Int)) Q :=
  view_Votes_Nodes_step _ (nodes_l n hn x h64 ex (n + 1) 0 (by omega) (by omega) (by rw [below_all ⟨x, h64⟩ ⟨n, by omega⟩ hx]; exact hQ))

theorem is_ev (n : Int) {Q : Bool → Prop} (hQ : Q (decide (2 ≤ n ∧ n ≤ 5))) : ref08_Is n Q := by
  by_cases h : n ≥ 2
  · refine ref08_Is_step _ (Br_t h (ref08_Is_ret.intro ?_))
    have e : decide (2 ≤ n ∧ n ≤ 5) = decide (n ≤ 5) := by rw [Bool.eq_iff_iff, decide_eq_true_eq, decide_eq_true_eq]; omega
    exact e ▸ hQ
  · refine ref08_Is_step _ (Br_f h (ref08_Is_ret.intro ?_))
    rwa [decide_eq_false (by omega)] at hQ
theorem rquorum_ev (k : Int) (hk : 2 ≤ k ∧ k ≤ 5) {Q : Int → Prop} (hQ : Q (k / 2 + 1)) : ref08_Quorum k Q := by
  refine ref08_Quorum_step _ (ref08_Quorum_c1_step _ true (is_ev k (decide_eq_true hk)) (Br_bf rfl ⟨by decide, ref08_Quorum_ret.intro ?_⟩))
  have : k = 2 ∨ k = 3 ∨ k = 4 ∨ k = 5 := by omega
  rcases this with rfl | rfl | rfl | rfl <;> exact hQ

/-- Behind every call of Add: what both tell is alike. -/
theorem tell (nodes : List Int) (j : Nat) (hj : j < nodes.length) (hl : nodes.length ≤ 100) (n : Nat) (hn : 2 ≤ n ∧ n ≤ 5) (x : Nat) (hx : x < 2 ^ (n + 1)) (ex : x % 2 = 0) (ok : Bool)
    (next : law08_ViewVotes_l2 nodes ((j + 1 : Nat) : Int) (n : Int) (x : Int) (n : Int) (lst x) (fun r => r = true)) (b : Bool)
    (hb1 : view_Votes_Has ((n : Int), (x : Int)) (rdI nodes (j : Int).toNat) (fun r => r = b)) (hb2 : (lst x).contains (rdI nodes (j : Int).toNat) = b) :
    law08_ViewVotes_c9 nodes (j : Int) (ok, ((n : Int), (x : Int))) (ok, ((n : Int), lst x)) (fun r => r = true) := by
  have hp : 2 ^ (n + 1) ≤ 64 := Nat.pow_le_pow_right (n := 2) (by decide) (show n + 1 ≤ 6 by omega)
  have h64 : x < 64 := by omega
  obtain ⟨hlen, hl6⟩ := lst_len ⟨x, h64⟩
  simp only at hlen hl6
  have hn' : (2 : Int) ≤ n ∧ (n : Int) ≤ 5 := by omega
  refine law08_ViewVotes_c9_step _ _ _ _ b hb1 (law08_ViewVotes_c10_step _ _ _ _ _ b (rhas_ev _ _ _ (by omega) hb2) (Br_bf (by simp) ?_))
  refine law08_ViewVotes_c11_step _ _ _ _ _ _ _ (count_ev n x h64 rfl) (Br_bf (by rw [← hlen]; exact bne_self_eq_false _) ?_)
  refine law08_ViewVotes_c12_step _ _ _ _ _ _ _ _ (enough_ev n hn' x h64 rfl) ?_
  refine law08_ViewVotes_c13_step _ _ _ _ _ _ _ _ _ (ref08_Votes_Enough_step _ (ref08_Votes_Enough_c1_step _ _ (rquorum_ev n hn' rfl) (ref08_Votes_Enough_ret.intro rfl))) (Br_bf (by simp [hlen]) ?_)
  refine law08_ViewVotes_c14_step _ _ _ _ _ _ _ _ _ (lst x) (vnodes_ev n hn x hx h64 ex rfl) ?_
  refine law08_ViewVotes_c15_step _ _ _ _ _ _ _ _ _ _ true (ints_ev (lst x) (by omega)) (law08_ViewVotes_k3_step _ _ _ _ _ (Br_bf rfl ?_))
  rw [addK_i64 (by omega)]; exact next

theorem votes_l (nodes : List Int) (hl : nodes.length ≤ 100) (n : Nat) (hn : 2 ≤ n ∧ n ≤ 5) : ∀ (k j x : Nat), nodes.length - j ≤ k → j ≤ nodes.length → x < 2 ^ (n + 1) → x % 2 = 0 → law08_ViewVotes_l2 nodes (j : Int) (n : Int) (x : Int) (n : Int) (lst x) (fun r => r = true) := by
  have fin : law08_ViewVotes_c16 (fun r => r = true) := law08_ViewVotes_c16_step true (lives_ev rfl) (law08_ViewVotes_ret.intro rfl)
  have hp : 2 ^ (n + 1) ≤ 64 := Nat.pow_le_pow_right (n := 2) (by decide) (show n + 1 ≤ 6 by omega)
  have hp0 : 0 < 2 ^ (n + 1) := Nat.pow_pos (by decide)
  intro k
  induction k with
  | zero => intro j x hk hj hx ex; exact law08_ViewVotes_l2_step _ _ _ _ _ _ (Br_f (by omega) fin)
  | succ k ih =>
    intro j x hk hj hx ex
    by_cases hlt : j < nodes.length
    · have h64 : x < 64 := by omega
      obtain ⟨hlen, hl6⟩ := lst_len ⟨x, h64⟩
      simp only at hlen hl6
      refine law08_ViewVotes_l2_step _ _ _ _ _ _ (Br_t (by omega) ⟨⟨by omega, by omega⟩, ?_⟩)
      by_cases h7 : rdI nodes (j : Int).toNat = -7
      · refine Br_et h7 (law08_ViewVotes_c6_step _ _ _ _ _ _ ((n : Int), 0) (view_Votes_Clear_step _ (view_Votes_Clear_ret.intro rfl)) ?_)
        rw [addK_i64 (by omega)]
        exact ih (j + 1) 0 (by omega) (by omega) hp0 (by decide)
      · refine Br_ef h7 ?_
        have next := fun x hx ex => ih (j + 1) x (by omega) (by omega) hx ex
        have T := fun x hx ex ok => tell nodes j hlt hl n hn x hx ex ok (next x hx ex)
        by_cases hr : 1 ≤ rdI nodes (j : Int).toNat ∧ rdI nodes (j : Int).toNat ≤ n
        · obtain ⟨i, hi⟩ : ∃ i : Nat, (i : Int) = rdI nodes (j : Int).toNat := ⟨(rdI nodes (j : Int).toNat).toNat, by omega⟩
          rw [← hi] at hr
          have hi1 : 1 ≤ i := by omega
          have hin : i ≤ n := by omega
          have hh := lst_has ⟨x, h64⟩ ⟨i, by omega⟩
          simp only at hh
          cases hb : bit x i with
          | true =>
            refine law08_ViewVotes_c7_step _ _ _ _ _ _ (false, ((n : Int), (x : Int))) ?_ (law08_ViewVotes_c8_step _ _ _ _ _ (false, ((n : Int), lst x)) ?_ (Br_bf rfl (T x hx ex false true ?_ ?_)))
            · rw [← hi]
              exact view_Votes_Add_step _ _ (Br_f (by omega) (Br_f (show ¬ (i : Int) > n by omega) (view_Votes_Add_c1_step _ _ true (has_ev n x i hi1 (by omega) hb) (view_Votes_Add_k1_step _ _ _ (Br_bt rfl (view_Votes_Add_ret.intro rfl))))))
            · rw [← hi]
              exact ref08_Votes_Add_step _ _ (Br_f (by omega) (Br_f (show ¬ (i : Int) > n by omega) (ref08_Votes_Add_c1_step _ _ true (rhas_ev _ _ _ (by omega) (hh.trans hb)) (ref08_Votes_Add_k1_step _ _ _ (Br_bt rfl (ref08_Votes_Add_ret.intro rfl))))))
            · rw [← hi]; exact has_ev n x i hi1 (by omega) hb
            · rw [← hi]; exact hh.trans hb
          | false =>
            obtain ⟨ho, hb'⟩ := bit_add ⟨x, h64⟩ ⟨i, by omega⟩ hb
            have hg := bit_grow ⟨x, h64⟩ ⟨i, by omega⟩ ⟨n, by omega⟩ hb hin hx
            have hev : 2 ^ i % 2 = 0 := by
              obtain ⟨q, rfl⟩ : ∃ q, i = q + 1 := ⟨i - 1, by omega⟩
              rw [Nat.pow_succ]; omega
            have hs := lst_ins ⟨x, h64⟩ ⟨i, by omega⟩ hb
            have hh' := lst_has ⟨x + 2 ^ i, by simp only at hg; omega⟩ ⟨i, by omega⟩
            simp only at ho hb' hg hs hh'
            refine law08_ViewVotes_c7_step _ _ _ _ _ _ (true, ((n : Int), ((x + 2 ^ i : Nat) : Int))) ?_ (law08_ViewVotes_c8_step _ _ _ _ _ (true, ((n : Int), lst (x + 2 ^ i))) ?_ (Br_bf rfl (T (x + 2 ^ i) hg (by omega) true true ?_ ?_)))
            · rw [← hi]
              refine view_Votes_Add_step _ _ (Br_f (by omega) (Br_f (show ¬ (i : Int) > n by omega) (view_Votes_Add_c1_step _ _ false (has_ev n x i hi1 (by omega) hb) (view_Votes_Add_k1_step _ _ _ (Br_bf rfl (view_Votes_Add_k2_step _ _ ⟨by omega, view_Votes_Add_ret.intro ?_⟩))))))
              show (true, ((n : Int), orK .u64 (x : Int) (shlK .u64 1 (i : Int)))) = _
              rw [ho]
            · rw [← hi]
              refine ref08_Votes_Add_step _ _ (Br_f (by omega) (Br_f (show ¬ (i : Int) > n by omega) (ref08_Votes_Add_c1_step _ _ false (rhas_ev _ _ _ (by omega) (hh.trans hb)) (ref08_Votes_Add_k1_step _ _ _ (Br_bf rfl (ref08_Votes_Add_k2_step _ _ ⟨show 0 + (lst x).length ≤ 1099511627776 by omega, ⟨rfl, show (lst x).length + 1 ≤ 1099511627776 by omega⟩, rfl, ?_⟩))))))
              have e : subK .i64 ((lst x ++ [(i : Int)]).length : Int) 1 = ((lst x).length : Int) := by
                rw [List.length_append, List.length_singleton, subK_i64 (by omega)]; omega
              rw [e]
              refine ins_l _ _ _ (by simp) (by simp; omega) ?_
              rw [hs]
            · rw [← hi]; exact has_ev n _ i hi1 (by omega) hb'
            · rw [← hi]; exact hh'.trans hb'
        · have hno : (lst x).contains (rdI nodes (j : Int).toNat) = false := by
            rw [Bool.eq_false_iff]
            intro hc
            have hm := List.contains_iff_mem.1 hc
            obtain ⟨q0, q5, qb⟩ := lst_rng ⟨x, h64⟩ _ hm
            by_cases hz : rdI nodes (j : Int).toNat = 0
            · rw [hz] at qb
              have := bit_0 ⟨x, h64⟩ ex
              simp only [Int.toNat_zero] at qb this
              rw [this] at qb; cases qb
            · have := bit_hi ⟨x, h64⟩ ⟨(rdI nodes (j : Int).toNat).toNat, by omega⟩ ⟨n, by omega⟩ hx (by simp only; omega)
              simp only at qb this
              rw [this] at qb; cases qb
          have vadd : view_Votes_Add (rdI nodes (j : Int).toNat) ((n : Int), (x : Int)) (fun r => r = (false, ((n : Int), (x : Int)))) := by
            by_cases h1 : rdI nodes (j : Int).toNat < 1
            · exact view_Votes_Add_step _ _ (Br_t h1 (view_Votes_Add_k1_step _ _ _ (Br_bt rfl (view_Votes_Add_ret.intro rfl))))
            · exact view_Votes_Add_step _ _ (Br_f h1 (Br_t (show _ > (n : Int) by omega) (view_Votes_Add_k1_step _ _ _ (Br_bt rfl (view_Votes_Add_ret.intro rfl)))))
          have radd : ref08_Votes_Add (rdI nodes (j : Int).toNat) ((n : Int), lst x) (fun r => r = (false, ((n : Int), lst x))) := by
            by_cases h1 : rdI nodes (j : Int).toNat < 1
            · exact ref08_Votes_Add_step _ _ (Br_t h1 (ref08_Votes_Add_k1_step _ _ _ (Br_bt rfl (ref08_Votes_Add_ret.intro rfl))))
            · exact ref08_Votes_Add_step _ _ (Br_f h1 (Br_t (show _ > (n : Int) by omega) (ref08_Votes_Add_k1_step _ _ _ (Br_bt rfl (ref08_Votes_Add_ret.intro rfl)))))
          have vhas : view_Votes_Has ((n : Int), (x : Int)) (rdI nodes (j : Int).toNat) (fun r => r = false) := by
            by_cases h1 : rdI nodes (j : Int).toNat ≥ 1
            · exact view_Votes_Has_step _ _ (Br_t h1 (Br_f (show ¬ _ ≤ (n : Int) by omega) (view_Votes_Has_ret.intro rfl)))
            · exact view_Votes_Has_step _ _ (Br_f h1 (view_Votes_Has_ret.intro rfl))
          exact law08_ViewVotes_c7_step _ _ _ _ _ _ _ vadd (law08_ViewVotes_c8_step _ _ _ _ _ _ radd (Br_bf rfl (T x hx ex false false vhas hno)))
    · exact law08_ViewVotes_l2_step _ _ _ _ _ _ (Br_f (by omega) fin)

theorem law08_ViewVotes_true (n : Int) (nodes : List Int) (wn : CT.wf (.int .i64) n) (wl : CT.wf (.sl (.one (.int .i64))) nodes) : law08_ViewVotes n nodes (fun x => x = true) := by
  refine law08_ViewVotes_step _ _ ?_
  by_cases hn : 2 ≤ n ∧ n ≤ 5
  · refine law08_ViewVotes_c1_step_some _ _ (n, 0) (new_ev n hn rfl) (law08_ViewVotes_c4_step_some _ _ _ (n, []) (ref08_NewVotes_step _ (ref08_NewVotes_c1_step _ true (is_ev n (decide_eq_true hn)) (Br_bf rfl (ref08_NewVotes_ret.intro rfl)))) ?_)
    by_cases hl : (nodes.length : Int) > 100
    · exact Br_t hl (law08_ViewVotes_c5_step true (lives_ev rfl) (law08_ViewVotes_ret.intro rfl))
    · obtain ⟨k, rfl⟩ : ∃ k : Nat, n = (k : Int) := ⟨n.toNat, by omega⟩
      exact Br_f hl (law08_ViewVotes_k1_step _ _ _ (votes_l nodes (by omega) k (by omega) _ 0 0 (Nat.le_refl _) (Nat.zero_le _) (Nat.pow_pos (by decide)) (by decide)))
  · refine law08_ViewVotes_c1_step_none _ _ (view_NewVotes_step _ (view_NewVotes_c1_step _ false (nodes_ev n (decide_eq_false hn)) (Br_bt rfl (view_NewVotes_ret.intro rfl)))) ?_
    exact law08_ViewVotes_c2_step_none _ _ (ref08_NewVotes_step _ (ref08_NewVotes_c1_step _ false (is_ev n (decide_eq_false hn)) (Br_bt rfl (ref08_NewVotes_ret.intro rfl)))) (law08_ViewVotes_c3_step true (lives_ev rfl) (law08_ViewVotes_ret.intro rfl))

end Go.Proofs.Ytpfdldcejeilnaa
