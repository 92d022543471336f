/- Proved: for all v, node and n the statement ViewLeads of the given program answers true: Leader, Quorum and Faults are the reference's, and the closed form of Next is the first later view that the node leads. No condition beyond the statement's own. -/
import Derived.Test.YtpfdldcejeilnaaPViewLeadsx1
set_option linter.unusedVariables false
set_option linter.unusedSimpArgs false
namespace Go.Proofs.Ytpfdldcejeilnaa.Pure
open Go.RowKit Go.Proofs.Ytpfdldcejeilnaa.PViewLeads Go.Proofs.YtpfdldcejeilnaaW.PrintWords Go.Proofs.YtpfdldcejeilnaaW.PrintLast

theorem lead_same : view_Leader.f = droverref08_Leader.f := rfl
theorem quorum_same : view_Quorum.f = droverref08_Quorum.f := rfl
theorem faults_same : view_Faults.f = droverref08_Faults.f := rfl
theorem nodes_same : view_nodes.f = droverref08_Is.f := rfl

theorem nodes_yes {n : Int} (h : 2 ≤ n) (h' : n ≤ 5) : view_nodes.f n = some true := by
  unfold view_nodes.f
  rw [if_pos (by omega)]; simp [h']

theorem nodes_some (n : Int) : ∃ b, view_nodes.f n = some b := by
  unfold view_nodes.f; split <;> exact ⟨_, rfl⟩

theorem lead_at {v n : Int} (h0 : 0 ≤ v) (h1 : v ≤ 2199023255552) (h : 2 ≤ n) (h' : n ≤ 5) : view_Leader.f v n = some (1 + v % n) := by
  unfold view_Leader.f
  rw [if_neg (by omega), nodes_yes h h']
  simp only [Option.bind_some, if_true]
  rw [if_neg (by omega), Int.tmod_eq_emod_of_nonneg h0]
  congr 1
  have a := Int.emod_nonneg v (show n ≠ 0 by omega)
  have b := Int.emod_lt_of_pos v (show 0 < n by omega)
  unfold wrap64; omega

theorem next_at {n : Int} (h : 2 ≤ n) (h' : n ≤ 5) (node : Int) (d : Nat) : ∀ (k : Nat) (x : Int), 0 ≤ x → x + d ≤ 2099023255552 → d < k →
    1 + (x + 1 + d) % n = node → (∀ j : Nat, j < d → 1 + (x + 1 + j) % n ≠ node) → droverref08_Next.l0 k x node n = some (x + 1 + d) := by
  induction d with
  | zero =>
    intro k x h0 h1 hk ht hn
    obtain ⟨k, rfl⟩ : ∃ m, k = m + 1 := ⟨k - 1, by omega⟩
    have w : wrap64 (x + 1) = x + 1 := by unfold wrap64; omega
    simp only [droverref08_Next.l0]
    rw [w, ← lead_same, lead_at (by omega) (by omega) h h']
    simp only [Option.bind_some]
    rw [if_pos (by simpa using ht)]; simp
  | succ d ih =>
    intro k x h0 h1 hk ht hn
    obtain ⟨k, rfl⟩ : ∃ m, k = m + 1 := ⟨k - 1, by omega⟩
    have w : wrap64 (x + 1) = x + 1 := by unfold wrap64; omega
    simp only [droverref08_Next.l0]
    rw [w, ← lead_same, lead_at (by omega) (by omega) h h']
    simp only [Option.bind_some]
    have e0 := hn 0 (by omega)
    rw [if_neg (by simpa using e0)]
    rw [ih k (x + 1) (by omega) (by omega) (by omega) (by rw [← ht]; congr 2; omega) (fun j hj => by
      have := hn (j + 1) (by omega)
      intro hc; apply this; rw [← hc]; congr 2; omega)]
    congr 1; omega

theorem mod_first (n a b : Int) (h : 2 ≤ n) (h' : n ≤ 5) (ha : 0 ≤ a) (hb : 1 ≤ b) (hb' : b ≤ n) :
    1 + (a + (b - (1 + a % n) + n) % n) % n = b ∧ ∀ j : Int, 0 ≤ j → j < (b - (1 + a % n) + n) % n → 1 + (a + j) % n ≠ b := by
  rcases (show n = 2 ∨ n = 3 ∨ n = 4 ∨ n = 5 by omega) with rfl | rfl | rfl | rfl
  all_goals exact ⟨by omega, fun j _ _ => by omega⟩

theorem next_same (v node n : Int) (wv : (Lit.int .i64 v).wf = true) : ∃ k r, view_Next.f v node n = some r ∧ droverref08_Next.f k v node n = some r := by
  unfold view_Next.f droverref08_Next.f
  by_cases h0 : v < 0
  · exact ⟨1, _, by rw [if_pos h0], by rw [if_pos h0]; simp [droverref08_Next.j0]⟩
  by_cases h1 : v > 1099511627776
  · exact ⟨1, _, by rw [if_neg h0, if_pos h1], by rw [if_neg h0, if_pos h1]; simp [droverref08_Next.j0]⟩
  simp only [if_neg h0, if_neg h1]
  by_cases hn : 2 ≤ n ∧ n ≤ 5
  · obtain ⟨h, h'⟩ := hn
    rw [← nodes_same, nodes_yes h h']
    simp only [Option.bind_some, if_true]
    by_cases h2 : node < 1
    · exact ⟨1, _, by rw [if_pos h2], by rw [if_pos h2]; simp [droverref08_Next.j0]⟩
    simp only [if_neg h2]
    by_cases h3 : node > n
    · exact ⟨1, _, by rw [if_pos h3], by simp [droverref08_Next.j0, h3]⟩
    rw [if_neg h3]
    have w : wrap64 (v + 1) = v + 1 := by unfold wrap64; omega
    have m := mod_first n (v + 1) node h h' (by omega) (by omega) (by omega)
    have a := Int.emod_nonneg (v + 1) (show n ≠ 0 by omega)
    have b := Int.emod_lt_of_pos (v + 1) (show 0 < n by omega)
    rw [w, lead_at (by omega) (by omega) h h']
    simp only [Option.bind_some]
    rw [if_neg (by omega)]
    have w1 : wrap64 (wrap64 (node - (1 + (v + 1) % n)) + n) = node - (1 + (v + 1) % n) + n := by unfold wrap64; omega
    rw [w1, Int.tmod_eq_emod_of_nonneg (by omega)]
    obtain ⟨d, hd⟩ : ∃ d : Nat, (node - (1 + (v + 1) % n) + n) % n = (d : Int) := ⟨((node - (1 + (v + 1) % n) + n) % n).toNat, by
      have := Int.emod_nonneg (node - (1 + (v + 1) % n) + n) (show n ≠ 0 by omega); omega⟩
    have hl := Int.emod_lt_of_pos (node - (1 + (v + 1) % n) + n) (show 0 < n by omega)
    rw [hd] at m hl ⊢
    refine ⟨d + 2, v + 1 + d, ?_, ?_⟩
    · congr 1; unfold wrap64; omega
    · have e : decide (node > n) = false := by simpa using h3
      rw [e]
      simp only [droverref08_Next.j0]
      rw [if_neg (by simp)]
      exact next_at h h' node d (d + 1) v (by omega) (by omega) (by omega) m.1 (fun j hj => m.2 j (by omega) (by omega))
  · obtain ⟨b, hb⟩ := nodes_some n
    have : b = false := by
      cases b
      · rfl
      · exfalso; apply hn; revert hb; unfold view_nodes.f; split <;> simp <;> omega
    subst this
    rw [← nodes_same, hb]
    exact ⟨1, _, by simp only [Option.bind_some]; rw [if_neg (by simp)], by simp [droverref08_Next.j0]⟩

theorem lead_some (v n : Int) : ∃ r, view_Leader.f v n = some r := by
  unfold view_Leader.f
  split
  · exact ⟨_, rfl⟩
  · obtain ⟨b, hb⟩ := nodes_some n
    rw [hb]; simp only [Option.bind_some]
    split
    · split
      · exfalso; subst b; rename_i h0; subst h0; simp [view_nodes.f] at hb
      · exact ⟨_, rfl⟩
    · exact ⟨_, rfl⟩

theorem quorum_some (n : Int) : ∃ r, view_Quorum.f n = some r := by
  unfold view_Quorum.f
  obtain ⟨b, hb⟩ := nodes_some n
  rw [hb]; simp only [Option.bind_some]; split <;> exact ⟨_, rfl⟩

theorem faults_some (n : Int) : ∃ r, view_Faults.f n = some r := by
  unfold view_Faults.f
  obtain ⟨b, hb⟩ := nodes_some n
  rw [hb]; simp only [Option.bind_some]; split <;> exact ⟨_, rfl⟩

theorem lives_true : droverlaw08_lives.f = some true := by decide +kernel

theorem ViewLeads : droverlaw08_ViewLeads.Pure := by
  intro v node n wv _ _
  obtain ⟨k, r, hr, hr'⟩ := next_same v node n wv
  obtain ⟨l, hl⟩ := lead_some v n
  obtain ⟨q, hq⟩ := quorum_some n
  obtain ⟨f, hf⟩ := faults_some n
  refine ⟨k, ?_⟩
  unfold droverlaw08_ViewLeads.f
  rw [← lead_same, hl, ← quorum_same, hq, ← faults_same, hf, hr, hr']
  simp [lives_true]

end Go.Proofs.Ytpfdldcejeilnaa.Pure
