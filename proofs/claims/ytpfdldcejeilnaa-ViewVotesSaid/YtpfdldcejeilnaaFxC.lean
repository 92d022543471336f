import Derived.Test.YtpfdldcejeilnaaFxB
set_option linter.unusedVariables false
set_option linter.unusedSimpArgs false
namespace Go.Fw
open Go
variable {L : List TO} {ob : Option Prop} {out : TOut}

theorem erU_append (a b : List (Nat × TO)) : ((a ++ b).map fun p => (p.1, erO p.2)) = (a.map fun p => (p.1, erO p.2)) ++ (b.map fun p => (p.1, erO p.2)) := by simp

theorem beq_refl_tl {a b : EL} (h : EL.beq a b = true) : a = b := EL.beq_eq h

theorem tIn_sound {e : EL} {v : TV} {ys : List e.T} {rds : List Nat} (h : tIn L e v = some (ob, ys, rds)) (hob : obl ob) :
    ∃ ob' cs, cellsIn (erOL L) e.len (er v) = some (ob', ys.length, cs, rds) ∧ ob' ∧ LeL cs (tc e ys) := by
  unfold tIn at h
  split at h
  · rename_i e' ws
    simp only [Option.map_eq_some_iff, Prod.mk.injEq] at h
    obtain ⟨xs, hx, -, rfl, rfl⟩ := h
    obtain ⟨he, ht, hl⟩ := castL_tl hx
    subst he
    refine ⟨∀ x ∈ tl e' xs, x.length = e'.len, tc e' xs, ?_, tl_mem, LeL.refl _⟩
    simp only [cellsIn, er, ← ht, tl_len]; rfl
  · cases h; exact ⟨True, [], rfl, trivial, trivial⟩
  · cases h; exact ⟨True, [], rfl, trivial, trivial⟩
  · rename_i o e1 n t
    split at h
    · rename_i e' ws hL
      split at h
      · rename_i hb
        have hb := EL.beq_eq hb; subst hb
        simp only [Option.map_eq_some_iff, Prod.mk.injEq] at h
        obtain ⟨xs, hx, rfl, rfl, rfl⟩ := h
        obtain ⟨he, ht, hl⟩ := castL_tl hx
        subst he
        have hob : n = ws.length := hob
        subst hob
        have hc : tc e1 ws = tc e1 xs := by rw [tc, tc, ht]
        refine ⟨0 + ws.length * e1.len ≤ (tc e1 ws).length, ((tc e1 ws).drop 0).take (ws.length * e1.len), ?_, by rw [tc_len]; omega, ?_⟩
        · simp only [cellsIn, er, erOL_get, hL, Option.map_some, erO, if_true, hl]
        · rw [List.drop_zero, List.take_of_length_le (by rw [tc_len]; exact Nat.le_refl _), hc]; exact LeL.refl _
      · cases h
    · cases h
  · rename_i o e1 s n t
    split at h
    · rename_i e' ws hL
      split at h
      · rename_i hb
        have hb := EL.beq_eq hb; subst hb
        simp only [Option.map_eq_some_iff, Prod.mk.injEq] at h
        obtain ⟨xs, hx, rfl, rfl, rfl⟩ := h
        obtain ⟨he, ht, hl⟩ := castL_tl hx
        subst he
        have hob : s + n ≤ ws.length := hob
        have hc : tc e1 ws = tc e1 xs := by rw [tc, tc, ht]
        have hn : (sub xs s n).length = n := by simp [sub]; omega
        refine ⟨s * e1.len + n * e1.len ≤ (tc e1 ws).length, ((tc e1 ws).drop (s * e1.len)).take (n * e1.len), ?_, ?_, ?_⟩
        · simp only [cellsIn, er, erOL_get, hL, Option.map_some, erO, if_true, hn]
        · rw [tc_len, ← Nat.add_mul]; exact Nat.mul_le_mul_right _ hob
        · rw [hc, tc_sub]; exact LeL.refl _
      · cases h
    · cases h
  · rename_i o off n z t
    split at h
    · rename_i cs hL
      split at h
      · rename_i hc
        obtain ⟨rfl, hc⟩ := hc
        simp only [Option.map_eq_some_iff, Prod.mk.injEq] at h
        obtain ⟨xs, hx, -, rfl, rfl⟩ := h
        obtain ⟨hl, hle⟩ := decs_spec hx
        refine ⟨off + n * e.len ≤ (erL cs).length, ((erL cs).drop off).take (n * e.len), ?_, by rw [erL_len]; exact hc, ?_⟩
        · simp only [cellsIn, er, erOL_get, hL, Option.map_some, erO, if_true, hl]
        · rw [erL_take, erL_drop] at hle; exact hle
      · cases h
    · cases h
  · cases h

theorem tBase_sound {e : EL} {v : TV} {xs : List e.T} {kill : List (Nat × TO)} (h : tBase L e v = some (ob, xs, kill)) (hob : obl ob) :
    ∃ ob' cs, appBase (erOL L) e.len (er v) = some (ob', xs.length, cs, kill.map fun p => (p.1, erO p.2)) ∧ ob' ∧ LeL cs (tc e xs) := by
  unfold tBase at h
  split at h
  · cases h; exact ⟨True, [], rfl, trivial, trivial⟩
  · cases h; exact ⟨True, [], rfl, trivial, trivial⟩
  · rename_i o e1 n t
    split at h
    · rename_i e' ws hL
      split at h
      · rename_i hb
        have hb := EL.beq_eq hb; subst hb
        simp only [Option.map_eq_some_iff, Prod.mk.injEq] at h
        obtain ⟨ys, hx, rfl, rfl, rfl⟩ := h
        obtain ⟨he, ht, hl⟩ := castL_tl hx
        subst he
        have hob : n = ws.length := hob
        subst hob
        have hc : tc e1 ws = tc e1 ys := by rw [tc, tc, ht]
        refine ⟨(0 : Nat) = 0 ∧ ws.length * e1.len ≤ (tc e1 ws).length ∧ (t = true ∨ (tc e1 ws).length = ws.length * e1.len), (tc e1 ws).take (ws.length * e1.len), ?_, ⟨rfl, by rw [tc_len]; exact Nat.le_refl _, .inr (tc_len _ _)⟩, ?_⟩
        · simp only [appBase, er, erOL_get, hL, Option.map_some, erO, if_true, hl]; rfl
        · rw [List.take_of_length_le (by rw [tc_len]; exact Nat.le_refl _), hc]; exact LeL.refl _
      · cases h
    · cases h
  · rename_i o e1 s n t
    split at h
    · rename_i e' ws hL
      split at h
      · rename_i hb
        obtain ⟨hb, rfl, rfl⟩ := hb
        have hb := EL.beq_eq hb; subst hb
        simp only [Option.map_eq_some_iff, Prod.mk.injEq] at h
        obtain ⟨ys, hx, rfl, rfl, rfl⟩ := h
        obtain ⟨he, ht, hl⟩ := castL_tl hx
        subst he
        have hob : n ≤ ws.length := hob
        have hc : tc e1 ws = tc e1 ys := by rw [tc, tc, ht]
        have hn : (ys.take n).length = n := by simp; omega
        refine ⟨0 * e1.len = 0 ∧ n * e1.len ≤ (tc e1 ws).length ∧ (true = true ∨ (tc e1 ws).length = n * e1.len), (tc e1 ws).take (n * e1.len), ?_, ⟨by simp, by rw [tc_len]; exact Nat.mul_le_mul_right _ hob, .inl rfl⟩, ?_⟩
        · simp only [appBase, er, erOL_get, hL, Option.map_some, erO, if_true, hn]; rfl
        · rw [hc, tc_take]; exact LeL.refl _
      · cases h
    · cases h
  · rename_i o off n z t
    split at h
    · rename_i cs hL
      split at h
      · rename_i hc
        obtain ⟨rfl, rfl, hc, ht⟩ := hc
        simp only [Option.map_eq_some_iff, Prod.mk.injEq] at h
        obtain ⟨ys, hx, -, rfl, rfl⟩ := h
        obtain ⟨hl, hle⟩ := decs_spec hx
        refine ⟨(0 : Nat) = 0 ∧ n * e.len ≤ (erL cs).length ∧ (t = true ∨ (erL cs).length = n * e.len), (erL cs).take (n * e.len), ?_, ⟨rfl, by rw [erL_len]; exact hc, by rw [erL_len]; exact ht⟩, ?_⟩
        · simp only [appBase, er, erOL_get, hL, Option.map_some, erO, if_true, hl]; rfl
        · rw [erL_take] at hle; exact hle
      · cases h
    · cases h
  · cases h

theorem szOb_spec {bytes n : Nat} (h : obl (szOb bytes n)) : n ≤ 1099511627776 ∧ n * bytes ≤ 140737488355328 := by
  unfold szOb at h
  split at h
  · rename_i hb
    have h : n ≤ 1099511627776 := h
    refine ⟨h, ?_⟩
    calc n * bytes ≤ 1099511627776 * 128 := Nat.mul_le_mul h hb
      _ = _ := by decide
  · rename_i hb
    have h : n * bytes ≤ 140737488355328 := h
    refine ⟨?_, h⟩
    have : n * 128 ≤ n * bytes := Nat.mul_le_mul_left _ (by omega)
    omega

theorem LeUpd.append : ∀ {a b c d : List (Nat × PObj)}, LeUpd a b → LeUpd c d → LeUpd (a ++ c) (b ++ d)
  | [], [], _, _, _, h => h
  | (n, x) :: a, (m, y) :: b, c, d, h1, h2 => ⟨h1.1, h1.2.1, LeUpd.append h1.2.2 h2⟩
  | [], _ :: _, _, _, h, _ => h.elim
  | _ :: _, [], _, _, h, _ => h.elim

theorem append_sound {env : List PV} {x y : Operand} {z bytes : Nat} {e : EL} {v u : TV} (hx : ev env x = er v) (hy : ev env y = er u) (h : tAppend L z bytes e v u = some (ob, out)) (hob : obl ob) : Good1 (peval env (erOL L) (.append z bytes x y)) out := by
  unfold tAppend at h
  split at h
  · rename_i hz
    subst hz
    split at h
    · rename_i ob1 xs kill ob2 ys rds h1 h2
      cases h
      rw [obl_oand, obl_oand] at hob
      obtain ⟨o1, o2, o3⟩ := hob
      obtain ⟨p1, cs1, b1, b2, b3⟩ := tBase_sound h1 o1
      obtain ⟨p2, cs2, a1, a2, a3⟩ := tIn_sound h2 o2
      obtain ⟨s1, s2⟩ := szOb_spec o3
      refine ⟨p1 ∧ p2 ∧ xs.length + ys.length ≤ 1099511627776 ∧ (xs.length + ys.length) * bytes ≤ 140737488355328, { pv := .osl (erOL L).length 0 (xs.length + ys.length) e.len false, upd := (kill.map fun p => (p.1, erO p.2)) ++ [((erOL L).length, .arr (cs1 ++ cs2))], rd := rds }, ?_, ⟨b2, a2, s1, s2⟩, ?_⟩
      · simp only [peval, hx, hy, b1, a1]
      · refine ⟨?_, rfl, ?_⟩
        · simp only [TOut.er, er, List.length_append, erOL_len]; exact Le.refl _
        · simp only [TOut.er, erU_append, List.map_cons, List.map_nil, erOL_len]
          refine LeUpd.append (LeUpd.refl _) ⟨rfl, ?_, trivial⟩
          show LeL _ (tc e (xs ++ ys))
          rw [tc_append]; exact LeL.append b3 a3
    · cases h
  · cases h

theorem appendL_sound {env : List PV} {x y : Operand} {z bytes : Nat} {v u : TV} (hx : ev env x = er v) (hy : ev env y = er u) (h : tAppendL L z bytes v u = some (ob, out)) : Good1 (peval env (erOL L) (.append z bytes x y)) out := by
  unfold tAppendL at h
  split at h
  · rename_i n cs kill m ys rds h1 h2
    split at h
    · rename_i hc
      cases h
      have b : ∃ ob', appBase (erOL L) z (er v) = some (ob', n, erL cs, kill.map fun p => (p.1, erO p.2)) ∧ ob' := by
        unfold tBaseL at h1
        split at h1
        · cases h1; exact ⟨True, rfl, trivial⟩
        · cases h1; exact ⟨True, rfl, trivial⟩
        · rename_i o off n' z' t
          split at h1
          · rename_i cs' hL
            split at h1
            · rename_i hh
              obtain ⟨rfl, rfl, h3, h4⟩ := hh
              cases h1
              refine ⟨(0 : Nat) = 0 ∧ n * z' ≤ (erL cs').length ∧ (t = true ∨ (erL cs').length = n * z'), ?_, rfl, by rw [erL_len]; exact h3, by rw [erL_len]; exact h4⟩
              simp only [appBase, er, erOL_get, hL, Option.map_some, erO, if_true, erL_take]; rfl
            · cases h1
          · cases h1
        · cases h1
      have a : ∃ ob', cellsIn (erOL L) z (er u) = some (ob', m, erL ys, rds) ∧ ob' := by
        unfold tInL at h2
        split at h2
        · cases h2; exact ⟨True, rfl, trivial⟩
        · cases h2; exact ⟨True, rfl, trivial⟩
        · rename_i o off n' z' t
          split at h2
          · rename_i cs' hL
            split at h2
            · rename_i hh
              obtain ⟨rfl, h3⟩ := hh
              cases h2
              refine ⟨off + m * z' ≤ (erL cs').length, ?_, by rw [erL_len]; exact h3⟩
              simp only [cellsIn, er, erOL_get, hL, Option.map_some, erO, if_true, erL_take, erL_drop]
            · cases h2
          · cases h2
        · cases h2
      obtain ⟨p1, b1, b2⟩ := b
      obtain ⟨p2, a1, a2⟩ := a
      refine Good1.of (ob' := p1 ∧ p2 ∧ n + m ≤ 1099511627776 ∧ (n + m) * bytes ≤ 140737488355328) ?_ ⟨b2, a2, hc.1, hc.2⟩
      simp only [peval, hx, hy, b1, a1, TOut.er, er, erOL_len, erU_append]
      simp only [List.map_cons, List.map_nil, erO, erL_append]
    · cases h
  · cases h

theorem tbd_er {env : List TV} {x : Option Operand} {r : Option Int} (h : tbd env x = some r) (d : Int) : bnd (erL env) d x = some (r.getD d) := by
  cases x with
  | none => simp only [tbd] at h; cases h; rfl
  | some a =>
    simp only [tbd, Option.map_eq_some_iff] at h
    obtain ⟨n, hn, rfl⟩ := h
    simp only [bnd, er_tev, tidx_er, hn, Option.getD_some]
theorem tbd_some {env : List TV} {x : Option Operand} {r : Option Int} (h : tbd env x = some r) : x.isSome = r.isSome := by
  cases x with
  | none => simp only [tbd] at h; cases h; rfl
  | some a =>
    simp only [tbd, Option.map_eq_some_iff] at h
    obtain ⟨n, hn, rfl⟩ := h
    rfl
theorem bnds_er {env : List TV} {lo hi mx : Option Operand} {l h m : Option Int} (hl : tbd env lo = some l) (hh : tbd env hi = some h) (hm : tbd env mx = some m) (n : Nat) :
    bnds (erL env) n lo hi mx = some (l.getD 0, h.getD n, m.getD n) := by
  simp only [bnds, tbd_er hl, tbd_er hh, tbd_er hm]

theorem tbnd_spec {n : Nat} {l h : Option Int} (hb : obl (tbnd n l h)) : 0 ≤ l.getD 0 ∧ l.getD 0 ≤ h.getD n ∧ h.getD n ≤ n := by
  cases l <;> cases h <;> simp only [tbnd, obl, Option.getD_none, Option.getD_some] at hb ⊢ <;> omega
theorem loN_eq (l : Option Int) : (l.getD 0).toNat = loN l := by cases l <;> rfl
theorem cntN_eq {n : Nat} {l h : Option Int} (hb : obl (tbnd n l h)) : (h.getD n).toNat - (l.getD 0).toNat = cntN n l h := by
  cases l <;> cases h <;> simp only [tbnd, obl, cntN, Option.getD_none, Option.getD_some] at hb ⊢ <;> omega
theorem cutL_tl {e : EL} {xs : List e.T} {l h : Option Int} (hb : obl (tbnd xs.length l h)) : tl e (cutL xs l h) = ((tl e xs).drop (l.getD 0).toNat).take ((h.getD xs.length).toNat - (l.getD 0).toNat) := by
  cases l <;> cases h <;> simp only [cutL, Option.getD_none, Option.getD_some, tl_take, tl_drop]
  · rw [List.take_of_length_le]; · rfl
    · simp [tl_len]
  · simp
  · rw [List.take_of_length_le]
    simp [tl_len]

theorem Le.loose (o off n z : Nat) (t : Bool) : Le (.osl o off n z t) (.osl o off n z false) := fun g w hr => by
  cases hr with
  | osl _ _ _ _ cap b _ h1 h2 h3 h4 => exact .osl _ _ _ _ cap b _ h1 h2 h3 (by simp)
  | osl0 => exact .osl0 _ _ _ _ _

theorem slice_sound {env : List TV} {x : Operand} {lo hi mx : Option Operand} {z : Nat} {l h m : Option Int} {v : TV} (hx : tev env x = v) (hl : tbd env lo = some l) (hh : tbd env hi = some h) (hm : tbd env mx = some m)
    (hs : tSlice z v l h m = some (ob, out)) (hob : obl ob) : Good1 (peval (erL env) (erOL L) (.slice z x lo hi mx)) out := by
  have hv : ev (erL env) x = er v := by rw [er_tev, hx]
  have B := bnds_er hl hh hm
  have hi_mx := tbd_some hm
  unfold tSlice at hs
  split at hs
  · rename_i e xs
    split at hs
    · rename_i hz
      subst hz
      split at hs
      · cases hs
        have hb := tbnd_spec hob
        refine Good1.of (ob' := 0 ≤ l.getD 0 ∧ l.getD 0 ≤ h.getD xs.length ∧ h.getD xs.length ≤ (xs.length : Int) ∧ (xs.length : Int) ≤ xs.length ∧ ∀ s ∈ tl e xs, s.length = e.len) ?_ ⟨hb.1, hb.2.1, hb.2.2, by omega, tl_mem⟩
        simp only [peval, hv, er, tl_len, B, Option.getD_none, er_pure, cutL_tl hob]
        rw [hi_mx]; rfl
      · rename_i m
        have key : ∀ (a b : Option Int), l = a → h = b → a.getD 0 = 0 → b = some 0 → m = 0 → Good1 (peval (erL env) (erOL L) (.slice e.len x lo hi mx)) (.pure .zsl) := by
          intro a b e1 e2 e3 e4 e5
          subst e1; subst e2; subst e5
          refine Good1.of (ob' := 0 ≤ l.getD 0 ∧ l.getD 0 ≤ h.getD xs.length ∧ h.getD xs.length ≤ (0 : Int) ∧ (0 : Int) ≤ xs.length ∧ ∀ s ∈ tl e xs, s.length = e.len) ?_ ⟨by rw [e3]; exact Int.le_refl _, by rw [e3, e4]; simp, by rw [e4]; simp, by omega, tl_mem⟩
          simp only [peval, hv, er, tl_len, B, Option.getD_some, er_pure]
          rw [hi_mx]; rfl
        split at hs
        · cases hs; exact key none (some 0) rfl rfl rfl rfl rfl
        · cases hs; exact key (some 0) (some 0) rfl rfl rfl rfl rfl
        · cases hs
    · cases hs
  · split at hs
    · rename_i hc
      cases hs
      refine Good1.of (ob' := l.getD 0 = 0 ∧ h.getD 0 = 0 ∧ m.getD 0 = 0) ?_ hc
      simp only [peval, hv, er]
      have := B 0
      simp only [Int.natCast_zero] at this
      rw [show (0 : Nat) = 0 from rfl, this]; rfl
    · cases hs
  · split at hs
    · rename_i hc
      cases hs
      refine Good1.of (ob' := l.getD 0 = 0 ∧ h.getD 0 = 0 ∧ m.getD 0 = 0) ?_ hc
      simp only [peval, hv, er]
      have := B 0
      simp only [Int.natCast_zero] at this
      rw [this]; rfl
    · cases hs
  · rename_i o e n t
    split at hs
    · rename_i hz
      subst hz
      split at hs
      · cases hs
        refine ⟨(0 : Int) ≤ 0 ∧ (0 : Int) ≤ n ∧ (n : Int) ≤ n ∧ (n : Int) ≤ n, _, by simp only [peval, hv, er, B, Option.getD_none, if_true]; rfl, by omega, ?_⟩
        refine ⟨?_, rfl, trivial⟩
        simp only [Int.toNat_zero, Nat.zero_mul, Nat.add_zero, Int.toNat_natCast, Nat.sub_zero, TOut.er, TOut.pure, er, Out.pure]
        rw [hi_mx]
        exact Le.loose _ _ _ _ _
      · cases hs
        have hb := tbnd_spec hob
        refine ⟨0 ≤ l.getD 0 ∧ l.getD 0 ≤ h.getD n ∧ h.getD n ≤ (n : Int) ∧ (n : Int) ≤ n, _, by simp only [peval, hv, er, B, Option.getD_none, if_true]; rfl, ⟨hb.1, hb.2.1, hb.2.2, by omega⟩, ?_⟩
        refine ⟨?_, rfl, trivial⟩
        simp only [TOut.er, TOut.pure, er, Out.pure, Nat.zero_add]
        rw [cntN_eq hob, hi_mx, loN_eq]
        exact Le.loose _ _ _ _ _
      · rename_i m h
        cases hs
        rw [obl_oand] at hob
        obtain ⟨o1, o2⟩ := hob
        have hb := tbnd_spec o1
        have o2 : m = h := o2
        subst o2
        refine ⟨0 ≤ l.getD 0 ∧ l.getD 0 ≤ m ∧ m ≤ m ∧ m ≤ (n : Int), _, by simp only [peval, hv, er, B, Option.getD_some, if_true]; rfl, ⟨hb.1, hb.2.1, by omega, hb.2.2⟩, ?_⟩
        refine ⟨?_, rfl, trivial⟩
        have := cntN_eq o1
        simp only [Option.getD_some] at this
        simp only [TOut.er, TOut.pure, er, Out.pure, loN_eq, Nat.zero_add] at this ⊢
        rw [this, hi_mx]
        simp only [Option.isSome_some, Bool.true_or, Bool.true_and, beq_self_eq_true]
        exact Le.refl _
      · cases hs
    · cases hs
  · rename_i o e s n t
    split at hs
    · rename_i hz
      subst hz
      split at hs
      · cases hs
        have hb := tbnd_spec hob
        refine ⟨0 ≤ l.getD 0 ∧ l.getD 0 ≤ h.getD n ∧ h.getD n ≤ (n : Int) ∧ (n : Int) ≤ n, _, by simp only [peval, hv, er, B, Option.getD_none, if_true]; rfl, ⟨hb.1, hb.2.1, hb.2.2, by omega⟩, ?_⟩
        refine ⟨?_, rfl, trivial⟩
        simp only [TOut.er, TOut.pure, er, Out.pure, plusN_eq, Nat.add_mul]
        rw [cntN_eq hob, hi_mx, loN_eq]
        exact Le.loose _ _ _ _ _
      · rename_i m h
        cases hs
        rw [obl_oand] at hob
        obtain ⟨o1, o2⟩ := hob
        have hb := tbnd_spec o1
        have o2 : m = h := o2
        subst o2
        refine ⟨0 ≤ l.getD 0 ∧ l.getD 0 ≤ m ∧ m ≤ m ∧ m ≤ (n : Int), _, by simp only [peval, hv, er, B, Option.getD_some, if_true]; rfl, ⟨hb.1, hb.2.1, by omega, hb.2.2⟩, ?_⟩
        refine ⟨?_, rfl, trivial⟩
        have := cntN_eq o1
        simp only [Option.getD_some] at this
        simp only [TOut.er, TOut.pure, er, Out.pure, plusN_eq, Nat.add_mul] at this ⊢
        rw [this, hi_mx, loN_eq]
        simp only [Option.isSome_some, Bool.true_or, Bool.true_and, beq_self_eq_true]
        exact Le.refl _
      · cases hs
    · cases hs
  · rename_i o off n z' t
    split at hs
    · rename_i hz
      subst hz
      split at hs
      · cases hs
        have hb := tbnd_spec hob
        refine ⟨0 ≤ l.getD 0 ∧ l.getD 0 ≤ h.getD n ∧ h.getD n ≤ (n : Int) ∧ (n : Int) ≤ n, _, by simp only [peval, hv, er, B, Option.getD_none, if_true]; rfl, ⟨hb.1, hb.2.1, hb.2.2, by omega⟩, ?_⟩
        refine ⟨?_, rfl, trivial⟩
        simp only [TOut.er, TOut.pure, er, Out.pure]
        rw [cntN_eq hob, hi_mx, loN_eq]
        exact Le.loose _ _ _ _ _
      · cases hs
    · cases hs
  · cases hs

end Go.Fw
