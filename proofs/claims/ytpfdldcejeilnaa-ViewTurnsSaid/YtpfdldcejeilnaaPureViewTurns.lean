/- Proved: for all v, n and node the statement ViewTurns of the given program answers true: of as many views side by side as there are nodes each node leads one, and Next is the first later view that the node leads. No condition beyond the statement's own. -/
import Derived.Test.YtpfdldcejeilnaaPViewTurnsx1
set_option linter.unusedVariables false
set_option linter.unusedSimpArgs false
namespace Go.Proofs.Ytpfdldcejeilnaa.Pure
open Go.RowKit Go.Proofs.Ytpfdldcejeilnaa.PViewTurns Go.Proofs.YtpfdldcejeilnaaW.PrintWords Go.Proofs.YtpfdldcejeilnaaW.PrintLast

theorem nodes_yes {n : Int} (h : 2 ≤ n) (h' : n ≤ 5) : view_nodes.f n = some true := by
  unfold view_nodes.f
  rw [if_pos (by omega)]; simp [h']

theorem lead_at {v n : Int} (h0 : 0 ≤ v) (h1 : v ≤ 2199023255552) (h : 2 ≤ n) (h' : n ≤ 5) : view_Leader.f v n = some (1 + v % n) := by
  unfold view_Leader.f
  rw [if_neg (by omega), nodes_yes h h']
  simp only [Option.bind_some, if_true]
  rw [if_neg (by omega), Int.tmod_eq_emod_of_nonneg h0]
  congr 1
  have a := Int.emod_nonneg v (show n ≠ 0 by omega)
  have b := Int.emod_lt_of_pos v (show 0 < n by omega)
  unfold wrap64; omega

theorem mod_first (n a b : Int) (h : 2 ≤ n) (h' : n ≤ 5) (_ : 0 ≤ a) (hb : 1 ≤ b) (hb' : b ≤ n) :
    1 + (a + (b - (1 + a % n) + n) % n) % n = b ∧ ∀ j : Int, 0 ≤ j → j < (b - (1 + a % n) + n) % n → 1 + (a + j) % n ≠ b := by
  rcases (show n = 2 ∨ n = 3 ∨ n = 4 ∨ n = 5 by omega) with rfl | rfl | rfl | rfl
  all_goals exact ⟨by omega, fun j _ _ => by omega⟩

theorem mod_once (n a b : Int) (h : 2 ≤ n) (h' : n ≤ 5) (_ : 0 ≤ a) (hb : 1 ≤ b) (hb' : b ≤ n) (i : Int) (h0 : 0 ≤ i) (hi : i < n) :
    1 + (a + i) % n = b ↔ i = (b - (1 + a % n) + n) % n := by
  rcases (show n = 2 ∨ n = 3 ∨ n = 4 ∨ n = 5 by omega) with rfl | rfl | rfl | rfl
  all_goals omega

theorem lives_true : droverlaw08_lives.f = some true := by decide +kernel

theorem next_at {v node n : Int} (h0 : 0 ≤ v) (h1 : v ≤ 1099511627776) (h : 2 ≤ n) (h' : n ≤ 5) (h2 : 1 ≤ node) (h3 : node ≤ n) :
    view_Next.f v node n = some (v + 1 + (node - (1 + (v + 1) % n) + n) % n) := by
  unfold view_Next.f
  rw [if_neg (by omega), if_neg (by omega), nodes_yes h h']
  simp only [Option.bind_some, if_true]
  rw [if_neg (by omega), if_neg (by omega)]
  have w : wrap64 (v + 1) = v + 1 := by unfold wrap64; omega
  rw [w, lead_at (by omega) (by omega) h h']
  simp only [Option.bind_some]
  rw [if_neg (by omega)]
  have a := Int.emod_nonneg (v + 1) (show n ≠ 0 by omega)
  have b := Int.emod_lt_of_pos (v + 1) (show 0 < n by omega)
  have w1 : wrap64 (wrap64 (node - (1 + (v + 1) % n)) + n) = node - (1 + (v + 1) % n) + n := by unfold wrap64; omega
  rw [w1, Int.tmod_eq_emod_of_nonneg (by omega)]
  have a1 := Int.emod_nonneg (node - (1 + (v + 1) % n) + n) (show n ≠ 0 by omega)
  have b1 := Int.emod_lt_of_pos (node - (1 + (v + 1) % n) + n) (show 0 < n by omega)
  congr 1; unfold wrap64; omega

theorem last_loop {n who x : Int} (h : 2 ≤ n) (h' : n ≤ 5) (hx : x ≤ 1099511627800) (d : Nat) : ∀ (k : Nat) (y : Int), 0 ≤ y → x - y = d → d < k →
    (∀ z, y ≤ z → z < x → 1 + z % n ≠ who) → droverlaw08_ViewTurns.l1 k n who x y = some true := by
  induction d with
  | zero =>
    intro k y h0 h1 hk hn
    obtain ⟨k, rfl⟩ : ∃ m, k = m + 1 := ⟨k - 1, by omega⟩
    simp only [droverlaw08_ViewTurns.l1]
    rw [if_neg (by omega), lives_true]; rfl
  | succ d ih =>
    intro k y h0 h1 hk hn
    obtain ⟨k, rfl⟩ : ∃ m, k = m + 1 := ⟨k - 1, by omega⟩
    simp only [droverlaw08_ViewTurns.l1]
    rw [if_pos (by omega), lead_at h0 (by omega) h h']
    simp only [Option.bind_some]
    rw [if_neg (hn y (by omega) (by omega))]
    have w : wrap64 (y + 1) = y + 1 := by unfold wrap64; omega
    rw [w]
    exact ih k (y + 1) (by omega) (by omega) (by omega) (fun z a b => hn z (by omega) b)

theorem first_loop {n w who : Int} (h : 2 ≤ n) (h' : n ≤ 5) (hw0 : 0 ≤ w) (hw : w ≤ 1099511627776) (hb : 1 ≤ who) (hb' : who ≤ n) (d : Nat) :
    ∀ (k : Nat) (i seen : Int), 0 ≤ i → n - i = d → d + 10 < k → (seen = if (who - (1 + w % n) + n) % n < i then 1 else 0) →
    droverlaw08_ViewTurns.l0 k n w who seen i = some true := by
  induction d with
  | zero =>
    intro k i seen h0 h1 hk hs
    obtain ⟨k, rfl⟩ : ∃ m, k = m + 3 := ⟨k - 3, by omega⟩
    simp only [droverlaw08_ViewTurns.l0]
    have b1 := Int.emod_lt_of_pos (who - (1 + w % n) + n) (show 0 < n by omega)
    rw [if_pos (by omega)] at hs
    rw [if_neg (by omega), next_at hw0 hw h h' hb hb']
    simp only [Option.bind_some]
    have a2 := Int.emod_nonneg (who - (1 + (w + 1) % n) + n) (show n ≠ 0 by omega)
    have b2 := Int.emod_lt_of_pos (who - (1 + (w + 1) % n) + n) (show 0 < n by omega)
    have m := mod_first n (w + 1) who h h' (by omega) hb hb'
    have w1 : wrap64 (w + n) = w + n := by unfold wrap64; omega
    have w2 : wrap64 (w + 1) = w + 1 := by unfold wrap64; omega
    rw [if_pos hs, if_neg (by omega), w1, if_neg (by omega), lead_at (by omega) (by omega) h h']
    simp only [Option.bind_some, droverlaw08_ViewTurns.j1]
    rw [if_neg (by rw [m.1]; simp), w2]
    obtain ⟨e, he⟩ : ∃ e : Nat, (who - (1 + (w + 1) % n) + n) % n = (e : Int) := ⟨((who - (1 + (w + 1) % n) + n) % n).toNat, by omega⟩
    rw [he] at a2 b2 m ⊢
    refine last_loop h h' (by omega) e (k + 1) (w + 1) (by omega) (by omega) (by omega) (fun z hz hz' => ?_)
    have := m.2 (z - (w + 1)) (by omega) (by omega)
    intro hc; apply this; rw [← hc]; congr 2; omega
  | succ d ih =>
    intro k i seen h0 h1 hk hs
    obtain ⟨k, rfl⟩ : ∃ m, k = m + 1 := ⟨k - 1, by omega⟩
    simp only [droverlaw08_ViewTurns.l0]
    have w1 : wrap64 (w + i) = w + i := by unfold wrap64; omega
    have w2 : wrap64 (i + 1) = i + 1 := by unfold wrap64; omega
    have w3 : wrap64 (seen + 1) = seen + 1 := by unfold wrap64; split at hs <;> omega
    rw [if_pos (by omega), w1, w2, w3, lead_at (by omega) (by omega) h h']
    simp only [Option.bind_some]
    have m := mod_once n w who h h' hw0 hb hb' i h0 (by omega)
    by_cases hc : 1 + (w + i) % n = who
    · rw [if_pos hc]
      have e := m.mp hc
      refine ih k (i + 1) (seen + 1) (by omega) (by omega) (by omega) ?_
      rw [if_neg (by omega)] at hs
      rw [if_pos (by omega), hs]; rfl
    · rw [if_neg hc]
      have e : i ≠ (who - (1 + w % n) + n) % n := fun x => hc (m.mpr x)
      refine ih k (i + 1) seen (by omega) (by omega) (by omega) ?_
      rw [hs]
      by_cases g : (who - (1 + w % n) + n) % n < i
      · rw [if_pos g, if_pos (by omega)]
      · rw [if_neg g, if_neg (by omega)]

theorem u64_range {n : Int} (h : (Lit.int .u64 n).wf = true) : 0 ≤ n ∧ n ≤ 18446744073709551615 := by
  have a : IntKind.u64.min = 0 := by decide +kernel
  have b : IntKind.u64.max = 18446744073709551615 := by decide +kernel
  simp only [Lit.wf, a, b, Bool.and_eq_true, decide_eq_true_eq] at h
  exact h

theorem wrap_u64 {n : Int} (h : 0 ≤ n) (h' : n ≤ 1000) : IntKind.u64.wrap n = n := by
  unfold IntKind.wrap
  have : IntKind.u64.signed = false := rfl
  have b : IntKind.u64.bits = 64 := rfl
  simp only [this, b]
  simp; omega

theorem ViewTurns : droverlaw08_ViewTurns.Pure := by
  intro v n node wv wn wd
  obtain ⟨v0, v1⟩ := u64_range wv
  obtain ⟨n0, n1⟩ := u64_range wn
  obtain ⟨d0, d1⟩ := u64_range wd
  unfold droverlaw08_ViewTurns.f
  rw [Int.tmod_eq_emod_of_nonneg n0, Int.tmod_eq_emod_of_nonneg v0]
  have a := Int.emod_nonneg n (show (4 : Int) ≠ 0 by omega)
  have b := Int.emod_lt_of_pos n (show (0 : Int) < 4 by omega)
  have e1 : wrap64 (2 + wrap64 (n % 4)) = 2 + n % 4 := by unfold wrap64; omega
  rw [e1, wrap_u64 (by omega) (by omega), Int.tmod_eq_emod_of_nonneg d0]
  have a2 := Int.emod_nonneg node (show 2 + n % 4 ≠ 0 by omega)
  have b2 := Int.emod_lt_of_pos node (show 0 < 2 + n % 4 by omega)
  have e2 : wrap64 (1 + wrap64 (node % (2 + n % 4))) = 1 + node % (2 + n % 4) := by unfold wrap64; omega
  have a3 := Int.emod_nonneg v (show (1099511627776 : Int) ≠ 0 by omega)
  have b3 := Int.emod_lt_of_pos v (show (0 : Int) < 1099511627776 by omega)
  have e3 : wrap64 (v % 1099511627776) = v % 1099511627776 := by unfold wrap64; omega
  rw [e2, e3]
  refine ⟨30, ?_⟩
  rw [if_neg (by omega)]
  generalize v % 1099511627776 = w at a3 b3 ⊢
  generalize he : 2 + n % 4 = kk at a2 b2 ⊢
  obtain ⟨d, hd⟩ : ∃ d : Nat, kk - 0 = (d : Int) := ⟨kk.toNat, by omega⟩
  refine first_loop (by omega) (by omega) a3 (by omega) (by omega) (by omega) d 30 0 0 (by omega) hd (by omega) ?_
  have := Int.emod_nonneg (1 + node % kk - (1 + w % kk) + kk) (show kk ≠ 0 by omega)
  rw [if_neg (by omega)]

end Go.Proofs.Ytpfdldcejeilnaa.Pure
