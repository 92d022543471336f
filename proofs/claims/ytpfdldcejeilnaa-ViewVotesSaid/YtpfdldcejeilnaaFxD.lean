import Derived.Test.YtpfdldcejeilnaaFxC
set_option linter.unusedVariables false
set_option linter.unusedSimpArgs false
namespace Go.Fw
open Go
variable {L : List TO} {ob : Option Prop} {out : TOut}

theorem sliceA_sound {env : List TV} {x : Operand} {lo hi mx : Option Operand} {n z : Nat} {l h m : Option Int} (hl : tbd env lo = some l) (hh : tbd env hi = some h) (hm : tbd env mx = some m)
    (hs : tSliceA L n z (tev env x) l h m = some (ob, out)) (hob : obl ob) : Good1 (peval (erL env) (erOL L) (.sliceA n z x lo hi mx)) out := by
  have hv := er_tev env x
  have B := bnds_er hl hh hm
  unfold tSliceA at hs
  split at hs
  · rename_i q off hx
    split at hs
    · rename_i cs hL
      split at hs
      · rename_i hc
        cases hs
        refine Good1.of (ob' := (0 : Int) ≤ 0 ∧ (0 : Int) ≤ n ∧ (n : Int) ≤ n ∧ (n : Int) ≤ n ∧ off + n * z ≤ (erL cs).length) ?_ ⟨by omega, by omega, by omega, by omega, by rw [erL_len]; exact hc⟩
        simp only [peval, hv, hx, er, erOL_get, hL, Option.map_some, erO, B, Option.getD_none, TOut.er, Int.toNat_zero, Nat.zero_mul, Nat.add_zero, Int.toNat_natCast, Nat.sub_zero, beq_self_eq_true, List.map_nil]
      · cases hs
    · cases hs
  · cases hs

theorem sliceS_sound {env : List TV} {x : Operand} {lo hi : Option Operand} {l h : Option Int} (hl : tbd env lo = some l) (hh : tbd env hi = some h)
    (hs : tSliceS (tev env x) l h = some (ob, out)) (hob : obl ob) : Good1 (peval (erL env) (erOL L) (.sliceS x lo hi)) out := by
  have hv := er_tev env x
  have B := fun n => bnds_er (env := env) (mx := none) (m := none) hl hh rfl n
  unfold tSliceS at hs
  split at hs
  · rename_i s hx
    have goal : ∀ a b : Nat, 0 ≤ l.getD 0 → l.getD 0 ≤ h.getD s.size → h.getD s.size ≤ s.size → (l.getD 0).toNat = a → (h.getD s.size).toNat = b → ∀ r : ByteArray, r = s.extract a b → out = .pure (.str r) → Good1 (peval (erL env) (erOL L) (.sliceS x lo hi)) out := by
      intro a b h1 h2 h3 h4 h5 r h6 h7
      subst h7; subst h6; subst h4; subst h5
      refine Good1.of (ob' := 0 ≤ l.getD 0 ∧ l.getD 0 ≤ h.getD s.size ∧ h.getD s.size ≤ (s.size : Int)) ?_ ⟨h1, h2, h3⟩
      simp only [peval, hv, hx, er, B, Option.getD_none]; rfl
    split at hs
    · cases hs
      exact goal 0 s.size (by simp) (by simp) (by simp) rfl (by simp) s (by simp) rfl
    · rename_i h
      cases hs
      have hob : 0 ≤ h ∧ h ≤ s.size := hob
      exact goal 0 h.toNat (by simp) (by simpa using hob.1) (by simpa using hob.2) rfl rfl _ rfl rfl
    · rename_i l
      cases hs
      have hob : 0 ≤ l ∧ l ≤ s.size := hob
      exact goal l.toNat s.size (by simpa using hob.1) (by simpa using hob.2) (by simp) rfl (by simp) _ rfl rfl
    · rename_i l h
      cases hs
      have hob : 0 ≤ l ∧ l ≤ h ∧ h ≤ s.size := hob
      exact goal l.toNat h.toNat (by simpa using hob.1) (by simpa using hob.2.1) (by simpa using hob.2.2) rfl rfl _ rfl rfl
  · cases hs

theorem rep_le {vs ds : List PV} (h : LeL vs ds) : ∀ n, LeL ((List.replicate n vs).flatten) ((List.replicate n ds).flatten)
  | 0 => trivial
  | n + 1 => by simpa [List.replicate_succ] using LeL.append h (rep_le h n)
theorem tc_rep (e : EL) (x : e.T) : ∀ n, tc e (List.replicate n x) = (List.replicate n ((EL.dv e x).map PV.d)).flatten
  | 0 => rfl
  | n + 1 => by rw [List.replicate_succ, tc_cons, tc_rep e x n, List.replicate_succ, List.flatten_cons]

theorem mkslice_sound {env : List TV} {l c : Operand} {z bytes : Nat} {zs : List PV} {e : EL} {n k : Int} (hl : tidx (tev env l) = some n) (hc : tidx (tev env c) = some k)
    (hs : tMkslice L z bytes zs e n k = some (ob, out)) (hob : obl ob) : Good1 (peval (erL env) (erOL L) (.mkslice z bytes zs l c)) out := by
  unfold tMkslice at hs
  split at hs
  · rename_i hz
    subst hz
    simp only [Option.bind_eq_some_iff, Option.map_eq_some_iff, Prod.mk.injEq] at hs
    obtain ⟨vs, h1, x, h2, rfl, rfl⟩ := hs
    refine ⟨0 ≤ n ∧ n = k ∧ n ≤ 1099511627776 ∧ n * bytes ≤ 140737488355328, { pv := .osl (erOL L).length 0 n.toNat e.len true, upd := [((erOL L).length, .arr ((List.replicate n.toNat zs).flatten))] }, ?_, hob, ?_⟩
    · simp only [peval, er_tev, tidx_er, hl, hc]
    · refine ⟨?_, rfl, ?_, ?_, trivial⟩
      · simp only [TOut.er, er, erOL_len, List.length_replicate]; exact Le.refl _
      · exact erOL_len L
      · show LeL _ (tc e (List.replicate n.toNat x))
        rw [tc_rep]
        have := edec_spec h2
        rw [tzs_er h1] at this
        exact rep_le this _
  · cases hs

theorem tidx_ev {env : List TV} {x : Operand} {n : Int} (h : tidx (tev env x) = some n) : idx? (ev (erL env) x) = some n := by rw [er_tev, tidx_er, h]

theorem tp_sound {env : List TV} {e : Option EL} {op : POp} (h : tp env L e op = some (ob, out)) (hob : obl ob) : Good1 (peval (erL env) (erOL L) op) out := by
  cases op
  case move x =>
    simp only [tp] at h; cases h
    refine Good1.of (ob' := True) ?_ trivial
    simp only [peval, er_tev]; rfl
  case pick c a b =>
    simp only [tp] at h
    split at h
    · rename_i t hc
      have hc' := er_tev env c; rw [hc] at hc'
      split at h
      · rename_i x y ha hb
        cases h
        refine Good1.of (ob' := True) ?_ trivial
        have ha' := er_tev env a; rw [ha] at ha'
        have hb' := er_tev env b; rw [hb] at hb'
        simp only [peval, hc', ha', hb', er]; rfl
      · rename_i hne
        cases h
        refine Good1.of (ob' := True) ?_ trivial
        simp only [peval, hc', er, er_tev env a, er_tev env b]
        split
        · rename_i x y h1 h2
          cases hva : tev env a <;> rw [hva] at h1 <;> simp only [er] at h1 <;> try (cases h1; done)
          cases hvb : tev env b <;> rw [hvb] at h2 <;> simp only [er] at h2 <;> try (cases h2; done)
          exact absurd hvb (by intro hh; exact hne _ _ hva hvb)
        · cases t <;> rfl
    · cases h
  case alloc zs =>
    simp only [tp, Option.map_eq_some_iff, Prod.mk.injEq] at h
    obtain ⟨cs, h1, rfl, rfl⟩ := h
    refine Good1.of (ob' := True) ?_ trivial
    simp only [peval, TOut.er, er, erOL_len, List.map_cons, List.map_nil, erO, tzs_er h1]
  case box n x =>
    simp only [tp] at h
    split at h
    · rename_i hc
      cases h
      refine Good1.of (ob' := isVal (er (tev env x)) = true ∧ (spread (er (tev env x))).length = n) ?_ ⟨by rw [tval_er]; exact hc.1, by rw [spread_er, erL_len]; exact hc.2⟩
      simp only [peval, er_tev, TOut.er, er, erOL_len, List.map_cons, List.map_nil, erO, spread_er]
    · cases h
  case build zs parts =>
    simp only [tp, Option.bind_eq_some_iff, Option.map_eq_some_iff, Prod.mk.injEq] at h
    obtain ⟨vs, h1, cs, h2, rfl, rfl⟩ := h
    refine Good1.of (ob' := True) ?_ trivial
    have := tfill_er h2
    rw [tzs_er h1, List.map_map] at this
    have e1 : (parts.map fun (o, n, x) => (o, n, ev (erL env) x)) = List.map ((fun (p : Nat × Nat × TV) => (p.1, p.2.1, er p.2.2)) ∘ fun (p : Nat × Nat × Operand) => (p.1, p.2.1, tev env p.2.2)) parts := by
      apply List.map_congr_left; intro p _; simp only [Function.comp, er_tev]
    simp only [peval, e1]
    have this' : fillP zs (List.map ((fun (p : Nat × Nat × TV) => (p.1, p.2.1, er p.2.2)) ∘ fun (p : Nat × Nat × Operand) => (p.1, p.2.1, tev env p.2.2)) parts) = some (erL cs) := this
    rw [this']; rfl
  case bslice z len zs parts =>
    have fill : ∀ vs cs, tzs zs = some vs → tfill vs (parts.map fun (o, n, x) => (o, n, tev env x)) = some cs → fillP zs (parts.map fun (o, n, x) => (o, n, ev (erL env) x)) = some (erL cs) := by
      intro vs cs h1 h2
      have := tfill_er h2
      rw [tzs_er h1, List.map_map] at this
      have e1 : (parts.map fun (o, n, x) => (o, n, ev (erL env) x)) = List.map ((fun (p : Nat × Nat × TV) => (p.1, p.2.1, er p.2.2)) ∘ fun (p : Nat × Nat × Operand) => (p.1, p.2.1, tev env p.2.2)) parts := by
        apply List.map_congr_left; intro p _; simp only [Function.comp, er_tev]
      rw [e1]; exact this
    simp only [tp] at h
    split at h
    · simp only [Option.bind_eq_some_iff, Option.map_eq_some_iff, Prod.mk.injEq] at h
      obtain ⟨vs, h1, cs, h2, rfl, rfl⟩ := h
      refine Good1.of (ob' := True) ?_ trivial
      simp only [peval, fill vs cs h1 h2, Option.map_some, TOut.er, er, erOL_len, List.map_cons, List.map_nil, erO]
    · rename_i e
      split at h
      · rename_i hz
        subst hz
        simp only [Option.bind_eq_some_iff, Option.map_eq_some_iff, Prod.mk.injEq] at h
        obtain ⟨vs, h1, cs, h2, xs, h3, rfl, rfl⟩ := h
        obtain ⟨d1, d2⟩ := decs_spec h3
        refine ⟨True, { pv := .osl (erOL L).length 0 len e.len true, upd := [((erOL L).length, .arr (erL cs))] }, ?_, trivial, ?_⟩
        · simp only [peval, fill vs cs h1 h2, Option.map_some]
        · refine ⟨?_, rfl, erOL_len L, d2, trivial⟩
          simp only [TOut.er, er, erOL_len, d1]; exact Le.refl _
      · cases h
  case load1 a => exact load1_sound (er_tev env a) h hob
  case loadN n a => exact loadN_sound (er_tev env a) h hob
  case store n a v => exact store_sound (er_tev env a) (er_tev env v) h hob
  case nilc x => exact nilc_sound (er_tev env x) h
  case bin op x y =>
    simp only [tp, Option.map_eq_some_iff] at h
    obtain ⟨⟨ob1, r⟩, h1, h2⟩ := h
    simp only [Prod.mk.injEq] at h2
    obtain ⟨rfl, rfl⟩ := h2
    obtain ⟨da, db, ob', d, e1, e2, e3, e4, e5⟩ := bin_sound h1 hob
    refine Good1.of (ob' := ob') ?_ e4
    simp only [peval, er_tev, e1, e2, e3, Option.map_some, er_pure, e5]
  case binB q x y =>
    simp only [tp] at h
    split at h
    · rename_i a b ha hb
      cases h
      refine Good1.of (ob' := True) ?_ trivial
      have ha' := er_tev env x; rw [ha] at ha'
      have hb' := er_tev env y; rw [hb] at hb'
      simp only [peval, ha', hb', er, er_pure]
      cases q <;> rfl
    · cases h
  case isnil kd q x => exact isnil_sound (er_tev env x) h
  case un op x =>
    simp only [tp] at h
    split at h
    · rename_i b hb
      cases h
      refine Good1.of (ob' := True) ?_ trivial
      have hb' := er_tev env x; rw [hb] at hb'
      simp only [peval, hb', er, er_pure]
    · rename_i k n hb
      cases h
      refine Good1.of (ob' := True) ?_ trivial
      have hb' := er_tev env x; rw [hb] at hb'
      simp only [peval, hb', er, er_pure]; rfl
    · cases h
  case conv k x =>
    simp only [tp] at h
    split at h
    · rename_i k' n hb
      cases h
      refine Good1.of (ob' := True) ?_ trivial
      have hb' := er_tev env x; rw [hb] at hb'
      simp only [peval, hb', er, er_pure]; rfl
    · cases h
  case b2s x => exact b2s_sound (er_tev env x) h hob
  case mark x => exact mark_sound (er_tev env x) h hob
  case extract x i =>
    simp only [tp] at h
    split at h
    · rename_i vs hb
      simp only [Option.map_eq_some_iff, Prod.mk.injEq] at h
      obtain ⟨p, hp, rfl, rfl⟩ := h
      refine Good1.of (ob' := True) ?_ trivial
      have hb' := er_tev env x; rw [hb] at hb'
      simp only [peval, hb', er, erL_get, hp, Option.map_some, er_pure]
    · cases h
  case faddr off x => exact faddr_sound (er_tev env x) h
  case field1 off x =>
    simp only [tp] at h
    split at h
    · rename_i vs hb
      simp only [Option.map_eq_some_iff, Prod.mk.injEq] at h
      obtain ⟨p, hp, rfl, rfl⟩ := h
      refine Good1.of (ob' := True) ?_ trivial
      have hb' := er_tev env x; rw [hb] at hb'
      simp only [peval, hb', er, erL_get, hp, Option.map_some, er_pure]
    · cases h
  case fieldN off n x =>
    simp only [tp] at h
    split at h
    · rename_i cs hb
      split at h
      · rename_i hc
        cases h
        refine Good1.of (ob' := off + n ≤ (erL cs).length) ?_ (by rw [erL_len]; exact hc)
        have hb' := er_tev env x; rw [hb] at hb'
        simp only [peval, hb', er, erL_take, erL_drop, er_pure]
      · cases h
    · cases h
  case iaddr z x i =>
    simp only [tp, Option.bind_eq_some_iff] at h
    obtain ⟨n, hn, h⟩ := h
    exact iaddr_sound (er_tev env x) (tidx_ev hn) h hob
  case iaddrA m z x i => simp only [tp] at h; cases h
  case idxS x i =>
    simp only [tp] at h
    split at h
    · rename_i s n hs hn
      cases h
      have hob : 0 ≤ n ∧ n.toNat < s.size := hob
      refine Good1.of (ob' := 0 ≤ n ∧ n.toNat < s.size) ?_ hob
      have hb' := er_tev env x; rw [hs] at hb'
      simp only [peval, hb', er, tidx_ev hn, er_pure]
    · cases h
  case len x => exact len_sound (er_tev env x) h
  case lenS x =>
    simp only [tp] at h
    split at h
    · rename_i s hs
      cases h
      refine Good1.of (ob' := True) ?_ trivial
      have hb' := er_tev env x; rw [hs] at hb'
      simp only [peval, hb', er, er_pure]
    · cases h
  case append z bytes x y =>
    simp only [tp] at h
    split at h
    · exact append_sound (er_tev env x) (er_tev env y) h hob
    · exact appendL_sound (er_tev env x) (er_tev env y) h
  case slice z x lo hi mx =>
    simp only [tp] at h
    split at h
    · rename_i l hh m h1 h2 h3
      exact slice_sound rfl h1 h2 h3 h hob
    · cases h
  case sliceA n z x lo hi mx =>
    simp only [tp] at h
    split at h
    · rename_i l hh m h1 h2 h3
      exact sliceA_sound h1 h2 h3 h hob
    · cases h
  case sliceS x lo hi =>
    simp only [tp] at h
    split at h
    · rename_i l hh h1 h2
      exact sliceS_sound h1 h2 h hob
    · cases h
  case mkslice z bytes zs l c =>
    simp only [tp] at h
    split at h
    · rename_i e n k h1 h2 h3
      exact mkslice_sound h2 h3 h hob
    · cases h
  case mkfn f caps =>
    simp only [tp] at h; cases h
    refine Good1.of (ob' := True) ?_ trivial
    simp only [peval, er_pure, er, erL_map, List.map_map]
    congr 4
    apply List.map_congr_left
    intro x _
    rw [← erL_map]; exact er_tev env x
  case minmax q x y =>
    simp only [tp] at h
    split at h
    · rename_i k a k' b ha hb
      split at h
      · rename_i hk
        cases h
        refine Good1.of (ob' := True) ?_ trivial
        have ha' := er_tev env x; rw [ha] at ha'
        have hb' := er_tev env y; rw [hb] at hb'
        simp only [peval, ha', hb', er, if_pos hk, er_pure]
        cases q <;> rfl
      · cases h
    · cases h
  case callf f args => simp only [tp] at h; cases h
  case callv x args => simp only [tp] at h; cases h

end Go.Fw
