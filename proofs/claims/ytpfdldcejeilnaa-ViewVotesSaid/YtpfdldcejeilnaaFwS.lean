import Derived.Test.YtpfdldcejeilnaaFwR
set_option linter.unusedVariables false
set_option linter.unusedSimpArgs false
namespace Go.Fw
open Go
variable {P : Program} {env : List PV} {L : List PObj} {ob : Prop} {out : Out}

theorem run_load1 {t : TypeId} {x : Operand} (ht : isAggT P t = some false) (hp : peval env L (.load1 x) = some (ob, out)) : out.upd = [] ∧ ∀ (g : Gh) (w : World) (ρ : Operand → Value), Rep g (ρ x) (ev env x) → FrOK g w → (∀ n, n ∈ out.rd → RelObj g w n (Lf L n)) → ∃ v, (Instr.loadAt t (ρ x)).run P w = .ok v w ∧ Rep g v out.pv := by
  have run : ∀ (b off : Nat) (w : World) (v : Value), w.cell? ⟨b, off, none⟩ = some v → (Instr.loadAt t (.pointer (some ⟨b, off, none⟩))).run P w = .ok v w := by
    intro b off w v hc
    simp [Instr.loadAt, Instr.sureAddr, loadVar, run_isAgg ht, run_load, hc]
  simp only [peval] at hp
  split at hp
  · rename_i q off h1
    split at hp
    · rename_i cs hL
      cases hi : cs[off]? with
      | none => rw [hi] at hp; cases hp
      | some p =>
        rw [hi] at hp
        simp only [Option.map_some, Option.some.injEq, Prod.mk.injEq] at hp
        obtain ⟨-, rfl⟩ := hp
        refine ⟨rfl, fun g w ρ hx hf hr => ?_⟩
        have r1 := hx; rw [h1] at r1
        have hq := hr q (by simp); rw [Lf_some hL] at hq
        generalize hv : ρ x = v at r1
        cases r1 with
        | ptr _ _ b hb =>
          obtain ⟨u, c1, c2, c3⟩ := rel_cell hq hb hi
          exact ⟨u, by simp [hv, run _ _ _ _ c1], c3⟩
    · rename_i cs hL
      cases hi : cs[off]? with
      | none => rw [hi] at hp; cases hp
      | some p =>
        rw [hi] at hp
        simp only [Option.map_some, Option.some.injEq, Prod.mk.injEq] at hp
        obtain ⟨-, rfl⟩ := hp
        refine ⟨rfl, fun g w ρ hx hf hr => ?_⟩
        have r1 := hx; rw [h1] at r1
        have hq := hr q (by simp); rw [Lf_some hL] at hq
        generalize hv : ρ x = v at r1
        cases r1 with
        | ptr _ _ b hb =>
          obtain ⟨u, c1, c3⟩ := froz_cell hf hq hb hi
          exact ⟨u, by simp [hv, run _ _ _ _ c1], .d c3⟩
    · cases hp
  · rename_i e off h1
    cases hi : e[off]? with
    | none => rw [hi] at hp; cases hp
    | some p =>
      rw [hi] at hp
      simp only [Option.map_some, Option.some.injEq, Prod.mk.injEq] at hp
      obtain ⟨-, rfl⟩ := hp
      refine ⟨rfl, fun g w ρ hx hf hr => ?_⟩
      have r1 := hx; rw [h1] at r1
      generalize hv : ρ x = v at r1
      cases r1 with
      | fptr _ _ b base hb =>
        obtain ⟨u, c1, c3⟩ := frozen_cell hf hb hi
        exact ⟨u, by simp [hv, run _ _ _ _ c1], .d c3⟩
  · cases hp

theorem run_loadN {t : TypeId} {n : Nat} {x : Operand} (ht : isAggT P t = some true) (hz : szOf P t = some n) (hp : peval env L (.loadN n x) = some (ob, out)) (hob : ob) : out.upd = [] ∧ ∀ (g : Gh) (w : World) (ρ : Operand → Value), Rep g (ρ x) (ev env x) → FrOK g w → (∀ n, n ∈ out.rd → RelObj g w n (Lf L n)) → ∃ v, (Instr.loadAt t (ρ x)).run P w = .ok v w ∧ Rep g v out.pv := by
  have run : ∀ (b off : Nat) (w : World) (vs : List Value), vs.length = n → (∀ j v, vs[j]? = some v → w.cell? ((⟨b, off, none⟩ : Addr).add j) = some v) →
      (Instr.loadAt t (.pointer (some ⟨b, off, none⟩))).run P w = .ok (.agg vs.toArray) w := by
    intro b off w vs hl hc
    have := run_loadCells_list (P := P) w ⟨b, off, none⟩ vs hc
    rw [hl] at this
    simp [Instr.loadAt, Instr.sureAddr, loadVar, run_isAgg ht, run_szOf hz, this]
  have seg : ∀ {α : Type} (cs : List α) (off j : Nat), off + n ≤ cs.length → j < n → ((cs.drop off).take n)[j]? = cs[off + j]? := by
    intro α cs off j h hj
    rw [List.getElem?_take_of_lt hj, List.getElem?_drop]
  simp only [peval] at hp
  split at hp
  · rename_i q off h1
    split at hp
    · rename_i cs hL
      simp only [Option.some.injEq, Prod.mk.injEq] at hp
      obtain ⟨rfl, rfl⟩ := hp
      refine ⟨rfl, fun g w ρ hx hf hr => ?_⟩
      have r1 := hx; rw [h1] at r1
      have hq := hr q (by simp); rw [Lf_some hL] at hq
      generalize hv : ρ x = v at r1
      cases r1 with
      | ptr _ _ b hb =>
        obtain ⟨vs, l1, l2, l3⟩ := cells_list (w := w) (b := b) (off := off) (n := n) (fun j v => one v = true ∧ ∀ p, cs[off + j]? = some p → Rep g v p) (fun j hj => by
          have hlt : off + j < cs.length := by omega
          obtain ⟨u, c1, c2, c3⟩ := rel_cell hq hb (List.getElem?_eq_getElem hlt)
          exact ⟨u, c1, c2, fun p hp => by rw [List.getElem?_eq_getElem hlt] at hp; cases hp; exact c3⟩)
        refine ⟨_, by simp [hv, run _ _ _ _ l1 l2], .agg vs _ (by simp; omega) (fun i v hv => (l3 i v hv).1) (fun i v c h1 h2 => ?_)⟩
        have hi : i < n := by rw [← l1]; exact (List.getElem?_eq_some_iff.1 h1).1
        rw [seg cs off i hob hi] at h2
        exact (l3 i v h1).2 c h2
    · rename_i cs hL
      simp only [Option.some.injEq, Prod.mk.injEq] at hp
      obtain ⟨rfl, rfl⟩ := hp
      refine ⟨rfl, fun g w ρ hx hf hr => ?_⟩
      have r1 := hx; rw [h1] at r1
      have hq := hr q (by simp); rw [Lf_some hL] at hq
      generalize hv : ρ x = v at r1
      cases r1 with
      | ptr _ _ b hb =>
        obtain ⟨vs, l1, l2, l3⟩ := cells_list (w := w) (b := b) (off := off) (n := n) (fun j v => ∀ p, cs[off + j]? = some p → RepD g.fr v p) (fun j hj => by
          have hlt : off + j < cs.length := by omega
          obtain ⟨u, c1, c3⟩ := froz_cell hf hq hb (List.getElem?_eq_getElem hlt)
          exact ⟨u, c1, fun p hp => by rw [List.getElem?_eq_getElem hlt] at hp; cases hp; exact c3⟩)
        have get : ∀ i v, vs[i]? = some v → ∃ p, cs[off + i]? = some p ∧ RepD g.fr v p := fun i v h1 => by
          have hi : i < n := by rw [← l1]; exact (List.getElem?_eq_some_iff.1 h1).1
          have hlt : off + i < cs.length := by omega
          exact ⟨_, List.getElem?_eq_getElem hlt, l3 i v h1 _ (List.getElem?_eq_getElem hlt)⟩
        refine ⟨_, by simp [hv, run _ _ _ _ l1 l2], .agg vs _ (by simp; omega) (fun i v hv => let ⟨_, _, r⟩ := get i v hv; r.one) (fun i v c h1 h2 => ?_)⟩
        have hi : i < n := by rw [← l1]; exact (List.getElem?_eq_some_iff.1 h1).1
        obtain ⟨p, p1, p2⟩ := get i v h1
        rw [List.getElem?_map, seg cs off i hob hi, p1] at h2
        simp only [Option.map_some, Option.some.injEq] at h2
        rw [← h2]; exact .d p2
    · cases hp
  · rename_i e off h1
    simp only [Option.some.injEq, Prod.mk.injEq] at hp
    obtain ⟨rfl, rfl⟩ := hp
    refine ⟨rfl, fun g w ρ hx hf hr => ?_⟩
    have r1 := hx; rw [h1] at r1
    generalize hv : ρ x = v at r1
    cases r1 with
    | fptr _ _ b base hb =>
      obtain ⟨vs, l1, l2, l3⟩ := cells_list (w := w) (b := b) (off := base + off) (n := n) (fun j v => ∀ p, e[off + j]? = some p → RepD g.fr v p) (fun j hj => by
        have hlt : off + j < e.length := by omega
        obtain ⟨u, c1, c3⟩ := frozen_cell hf hb (List.getElem?_eq_getElem hlt)
        exact ⟨u, by rw [Nat.add_assoc]; exact c1, fun p hp => by rw [List.getElem?_eq_getElem hlt] at hp; cases hp; exact c3⟩)
      have get : ∀ i v, vs[i]? = some v → ∃ p, e[off + i]? = some p ∧ RepD g.fr v p := fun i v h1 => by
        have hi : i < n := by rw [← l1]; exact (List.getElem?_eq_some_iff.1 h1).1
        have hlt : off + i < e.length := by omega
        exact ⟨_, List.getElem?_eq_getElem hlt, l3 i v h1 _ (List.getElem?_eq_getElem hlt)⟩
      refine ⟨_, by simp [hv, run _ _ _ _ l1 l2], .agg vs _ (by simp; omega) (fun i v hv => let ⟨_, _, r⟩ := get i v hv; r.one) (fun i v c h1 h2 => ?_)⟩
      have hi : i < n := by rw [← l1]; exact (List.getElem?_eq_some_iff.1 h1).1
      obtain ⟨p, p1, p2⟩ := get i v h1
      rw [List.getElem?_map, seg e off i hob hi, p1] at h2
      simp only [Option.map_some, Option.some.injEq] at h2
      rw [← h2]; exact .d p2
  · cases hp

end Go.Fw
