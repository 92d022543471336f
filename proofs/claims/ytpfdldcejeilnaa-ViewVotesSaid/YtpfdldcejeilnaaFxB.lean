import Derived.Test.YtpfdldcejeilnaaFxA
set_option linter.unusedVariables false
set_option linter.unusedSimpArgs false
namespace Go.Fw
open Go

/-! ### What an operation does, typed, is what it does -/

theorem map_fst (l : List (Nat × TO)) : (l.map fun p => (p.1, erO p.2)).map (·.1) = l.map (·.1) := by
  simp

theorem er_pure (v : TV) : (TOut.pure v).er = Out.pure (er v) := rfl

def Good1 (r : Option (Prop × Out)) (out : TOut) : Prop := ∃ ob' out0, r = some (ob', out0) ∧ ob' ∧ LeOut out0 out.er
theorem Good1.of {ob' : Prop} {out : TOut} {r : Option (Prop × Out)} (h : r = some (ob', out.er)) (ho : ob') : Good1 r out := ⟨ob', _, h, ho, LeOut.refl _⟩

theorem binI_sound {op : BinOp} {k k' : IntKind} {x y : Int} {ob : Option Prop} {r : TV} (h : binI op k x k' y = some (ob, r)) (hob : obl ob) : ∃ ob' d, binD op (.int k x) (.int k' y) = some (ob', d) ∧ ob' ∧ er r = .d d := by
  unfold binI at h
  cases op <;> simp only at h <;> first
    | (cases h; done)
    | (split at h
       · rename_i hk
         cases h
         refine ⟨_, _, by simp only [binD, if_pos hk]; rfl, ?_, rfl⟩
         first | exact trivial | exact hob
       · cases h)
    | (cases h; exact ⟨_, _, by simp only [binD]; rfl, hob, rfl⟩)
theorem binS_sound {op : BinOp} {x y : ByteArray} {ob : Option Prop} {r : TV} (h : binS op x y = some (ob, r)) (hob : obl ob) : ∃ ob' d, binD op (.str x) (.str y) = some (ob', d) ∧ ob' ∧ er r = .d d := by
  unfold binS at h
  cases op <;> simp only at h <;> first
    | (cases h; done)
    | (cases h
       refine ⟨_, _, by simp only [binD]; rfl, ?_, rfl⟩
       first | exact trivial | exact hob)
theorem bin_sound {op : BinOp} {a b : TV} {ob : Option Prop} {r : TV} (h : binT op a b = some (ob, r)) (hob : obl ob) : ∃ da db ob' d, er a = .d da ∧ er b = .d db ∧ binD op da db = some (ob', d) ∧ ob' ∧ er r = .d d := by
  unfold binT at h
  split at h
  · obtain ⟨ob', d, h1, h2, h3⟩ := binI_sound h hob
    exact ⟨_, _, ob', d, rfl, rfl, h1, h2, h3⟩
  · obtain ⟨ob', d, h1, h2, h3⟩ := binS_sound h hob
    exact ⟨_, _, ob', d, rfl, rfl, h1, h2, h3⟩
  · cases h

variable {L : List TO} {ob : Option Prop} {out : TOut}

theorem load1_sound {env : List PV} {a : Operand} {v : TV} (ha : ev env a = er v) (h : tLoad1 L v = some (ob, out)) (hob : obl ob) : Good1 (peval env (erOL L) (.load1 a)) out := by
  unfold tLoad1 at h
  split at h
  · rename_i o off
    split at h
    · rename_i cs hL
      simp only [Option.map_eq_some_iff, Prod.mk.injEq] at h
      obtain ⟨p, hp, rfl, rfl⟩ := h
      refine Good1.of (ob' := True) ?_ trivial
      simp only [peval, ha, er, erOL_get, hL, Option.map_some, erO, erL_get, hp]
      rfl
    · cases h
  · rename_i o z i off
    split at h
    · rename_i e xs hL
      split at h
      · rename_i hz
        subst hz
        simp only [Option.map_eq_some_iff, Prod.mk.injEq] at h
        obtain ⟨p, hp, rfl, rfl⟩ := h
        have hoff : off < e.len := by have := (List.getElem?_eq_some_iff.1 hp).1; rwa [etv_len] at this
        refine Good1.of (ob' := True) ?_ trivial
        simp only [peval, ha, er, erOL_get, hL, Option.map_some, erO]
        rw [tc_get hob hoff, ← er_etv, erL_get, hp]
        rfl
      · cases h
    · cases h
  · rename_i e x off
    simp only [Option.map_eq_some_iff, Prod.mk.injEq] at h
    obtain ⟨p, hp, rfl, rfl⟩ := h
    have : (EL.dv e x)[off]?.map PV.d = some (er p) := by rw [← List.getElem?_map, ← er_etv, erL_get, hp]; rfl
    simp only [Option.map_eq_some_iff] at this
    obtain ⟨d, hd, hdp⟩ := this
    refine Good1.of (ob' := True) ?_ trivial
    simp only [peval, ha, er, hd, Option.map_some]
    rw [hdp]; rfl
  · cases h

theorem seg_get {A : Type} (cs : List A) (i z off n : Nat) {x : List A} (hx : ∀ k, k < z → cs[i * z + k]? = x[k]?) (hz : off + n ≤ z) (hl : x.length = z) : (cs.drop (i * z + off)).take n = (x.drop off).take n := by
  apply List.ext_getElem?
  intro k
  by_cases hk : k < n
  · rw [List.getElem?_take_of_lt hk, List.getElem?_take_of_lt hk, List.getElem?_drop, List.getElem?_drop, Nat.add_assoc]
    exact hx _ (by omega)
  · rw [List.getElem?_take_eq_none (by omega), List.getElem?_take_eq_none (by omega)]

theorem vec_room {e : EL} {xs : List e.T} {i off n : Nat} (hi : i < xs.length) (h : off + n ≤ e.len) : i * e.len + off + n ≤ (tc e xs).length := by
  rw [tc_len]
  have : (i + 1) * e.len ≤ xs.length * e.len := Nat.mul_le_mul_right _ hi
  rw [Nat.add_mul] at this; omega

theorem loadN_sound {env : List PV} {a : Operand} {n : Nat} {v : TV} (ha : ev env a = er v) (h : tLoadN L n v = some (ob, out)) (hob : obl ob) : Good1 (peval env (erOL L) (.loadN n a)) out := by
  unfold tLoadN at h
  split at h
  · rename_i o off
    split at h
    · rename_i cs hL
      split at h
      · rename_i hc
        cases h
        refine Good1.of (ob' := off + n ≤ (erL cs).length) ?_ (by rw [erL_len]; exact hc)
        simp only [peval, ha, er, erOL_get, hL, Option.map_some, erO, TOut.er, erL_take, erL_drop, List.map_nil]
      · cases h
    · cases h
  · rename_i o z i off
    split at h
    · rename_i e xs hL
      split at h
      · rename_i hc
        obtain ⟨rfl, hc⟩ := hc
        cases h
        refine Good1.of (ob' := i * e.len + off + n ≤ (tc e xs).length) ?_ (vec_room hob hc)
        simp only [peval, ha, er, erOL_get, hL, Option.map_some, erO, TOut.er, erL_take, erL_drop, List.map_nil]
        rw [seg_get (tc e xs) i e.len off n (x := erL (EL.tv e (rd e xs i))) (fun k hk => by rw [tc_get hob hk, er_etv]) hc (by rw [erL_len, etv_len])]
      · cases h
    · cases h
  · rename_i e x off
    split at h
    · rename_i hc
      cases h
      refine Good1.of (ob' := off + n ≤ (EL.dv e x).length) ?_ (by rw [dv_len]; exact hc)
      simp only [peval, ha, er, er_pure, erL_take, erL_drop, er_etv, List.map_take, List.map_drop]
    · cases h
  · cases h

theorem LeL.of_eq {a b : List PV} (h : a = b) : LeL a b := h ▸ LeL.refl a

theorem store_sound {env : List PV} {a x : Operand} {n : Nat} {v p : TV} (ha : ev env a = er p) (hx : ev env x = er v) (h : tStore L n v p = some (ob, out)) (hob : obl ob) : Good1 (peval env (erOL L) (.store n a x)) out := by
  unfold tStore at h
  split at h
  · rename_i o off
    split at h
    · rename_i cs hL
      split at h
      · rename_i hc
        obtain ⟨c1, c2, c3⟩ := hc
        cases h
        refine Good1.of (ob' := isVal (er v) = true ∧ (spread (er v)).length = n ∧ off + n ≤ (erL cs).length) ?_ ⟨by rw [tval_er]; exact c1, by rw [spread_er, erL_len]; exact c2, by rw [erL_len]; exact c3⟩
        simp only [peval, ha, hx, er, erOL_get, hL, Option.map_some, erO, TOut.er, List.map_cons, List.map_nil, erL_append, erL_take, erL_drop, spread_er]
      · cases h
    · cases h
  · rename_i o z i off
    split at h
    · rename_i e xs hL
      split at h
      · rename_i hc
        obtain ⟨rfl, c1, c2, c3⟩ := hc
        simp only [Option.map_eq_some_iff, Prod.mk.injEq] at h
        obtain ⟨y, hy, rfl, rfl⟩ := h
        refine ⟨isVal (er v) = true ∧ (spread (er v)).length = n ∧ i * e.len + off + n ≤ (tc e xs).length, { pv := .und, upd := [(o, .arr ((tc e xs).take (i * e.len + off) ++ spread (er v) ++ (tc e xs).drop (i * e.len + off + n)))] }, ?_, ⟨by rw [tval_er]; exact c1, by rw [spread_er, erL_len]; exact c2, vec_room hob c3⟩, ?_⟩
        · simp only [peval, ha, hx, er, erOL_get, hL, Option.map_some, erO]
        · refine ⟨Le.refl _, rfl, rfl, ?_, trivial⟩
          have hd := edec_spec hy
          have hcell : ∀ k, k < e.len → (tc e xs)[i * e.len + k]? = (erL (EL.tv e (rd e xs i)))[k]? := fun k hk => by rw [tc_get hob hk, er_etv]
          have hl : (erL (EL.tv e (rd e xs i))).length = e.len := by rw [erL_len, etv_len]
          have h1 := seg_get (tc e xs) i e.len 0 off (x := erL (EL.tv e (rd e xs i))) hcell (by omega) hl
          have h2 := seg_get (tc e xs) i e.len (off + n) (e.len - (off + n)) (x := erL (EL.tv e (rd e xs i))) hcell (by omega) hl
          rw [List.drop_zero, Nat.add_zero] at h1
          have h3 : ((erL (EL.tv e (rd e xs i))).drop (off + n)).take (e.len - (off + n)) = (erL (EL.tv e (rd e xs i))).drop (off + n) := List.take_of_length_le (by rw [List.length_drop, hl]; omega)
          rw [h3] at h2
          have e1 : (tc e xs).take (i * e.len + off) = (tc e xs).take (i * e.len) ++ (erL (EL.tv e (rd e xs i))).take off := by rw [← h1, List.take_add]
          have e2 : (tc e xs).drop (i * e.len + off + n) = (erL (EL.tv e (rd e xs i))).drop (off + n) ++ (tc e xs).drop (i * e.len + e.len) := by
            have h5 := (List.take_append_drop (e.len - (off + n)) ((tc e xs).drop (i * e.len + (off + n)))).symm
            rw [List.drop_drop, h2, show i * e.len + (off + n) + (e.len - (off + n)) = i * e.len + e.len from by omega] at h5
            rw [Nat.add_assoc]; exact h5
          show LeL _ (tc e (xs.set i y))
          rw [tc_set hob, e1, e2, spread_er]
          rw [erL_append, erL_append, erL_take, erL_drop] at hd
          have := LeL.append (LeL.append (LeL.refl ((tc e xs).take (i * e.len))) hd) (LeL.refl ((tc e xs).drop (i * e.len + e.len)))
          simpa only [List.append_assoc] using this
      · cases h
    · cases h
  · cases h

theorem nilc_sound {env : List PV} {x : Operand} {v : TV} (hx : ev env x = er v) (h : tNilc v = some (ob, out)) : Good1 (peval env (erOL L) (.nilc x)) out := by
  unfold tNilc at h
  split at h <;> first
    | (cases h; done)
    | (cases h; refine Good1.of (ob' := True) ?_ trivial; simp only [peval, hx, er]; rfl)

theorem isnil_sound {env : List PV} {x : Operand} {kd : Nat} {q : Bool} {v : TV} (hx : ev env x = er v) (h : tIsnil kd q v = some (ob, out)) : Good1 (peval env (erOL L) (.isnil kd q x)) out := by
  unfold tIsnil at h
  split at h <;> first
    | (cases h; done)
    | (cases h; refine Good1.of (ob' := True) ?_ trivial; simp only [peval, hx, er]; rfl)

theorem ints_spec {k : IntKind} : ∀ {vs : List TV} {xs : List Int}, ints k vs = some xs → vs = xs.map (.int k ·)
  | [], xs, h => by simp only [ints] at h; cases h; rfl
  | v :: r, xs, h => by
    simp only [ints] at h
    split at h
    · rename_i x ys h1 h2
      cases h
      rw [List.map_cons, ← ints_spec h2]
      unfold decI at h1
      split at h1
      · split at h1
        · rename_i hk; cases h1; rw [hk]
        · cases h1
      · cases h1
    · cases h

abbrev eU8 : EL := .one (.int .u8)
theorem tl_u8 : ∀ xs : List eU8.T, tl eU8 xs = List.map (fun (x : Int) => [DV.int .u8 x]) xs
  | [] => rfl
  | x :: xs => congrArg (List.cons [DV.int .u8 x]) (tl_u8 xs)
theorem tc_u8 : ∀ xs : List eU8.T, tc eU8 xs = List.map (fun (x : Int) => PV.d (.int .u8 x)) xs
  | [] => rfl
  | x :: xs => congrArg (List.cons (PV.d (.int .u8 x))) (tc_u8 xs)
theorem tl_u8_mem {xs : List eU8.T} : ∀ e ∈ tl eU8 xs, ∃ n : Int, e = [.int .u8 n] := by
  intro e he
  rw [tl_u8] at he
  obtain ⟨a, _, rfl⟩ := List.mem_map.1 he
  exact ⟨a, rfl⟩
theorem tc_u8_mem {xs : List eU8.T} : ∀ p ∈ tc eU8 xs, ∃ k : Int, p = .d (.int .u8 k) := by
  intro e he
  rw [tc_u8] at he
  obtain ⟨a, _, rfl⟩ := List.mem_map.1 he
  exact ⟨a, rfl⟩
theorem bytes_tl' (xs : List Int) : bytesOf (List.map (fun (x : Int) => [DV.int .u8 x]) xs) = bytesT xs := by
  simp [bytesOf, bytesT, Function.comp_def]
theorem bytes_tc' (xs : List Int) : bytesP (List.map (fun (x : Int) => PV.d (.int .u8 x)) xs) = bytesT xs := by
  simp [bytesP, bytesT, Function.comp_def]
theorem bytes_tl (xs : List eU8.T) : bytesOf (tl eU8 xs) = bytesT xs := (congrArg bytesOf (tl_u8 xs)).trans (bytes_tl' xs)
theorem bytes_tc (xs : List eU8.T) : bytesP (tc eU8 xs) = bytesT xs := (congrArg bytesP (tc_u8 xs)).trans (bytes_tc' xs)
theorem bytes_ints (xs : List Int) : bytesP (erL (xs.map (.int .u8 ·))) = bytesT xs := by
  simp [bytesP, bytesT, erL_map, er, Function.comp_def]

theorem b2s_sound {env : List PV} {x : Operand} {v : TV} (hx : ev env x = er v) (h : tB2s L v = some (ob, out)) (hob : obl ob) : Good1 (peval env (erOL L) (.b2s x)) out := by
  unfold tB2s at h
  split at h
  · rename_i xs
    cases h
    refine Good1.of (ob' := ∀ e ∈ tl eU8 xs, ∃ n : Int, e = [.int .u8 n]) ?_ tl_u8_mem
    have := bytes_tl xs
    simp only [peval, hx, er, this]; rfl
  · cases h; refine Good1.of (ob' := True) ?_ trivial; simp only [peval, hx, er]; rfl
  · cases h; refine Good1.of (ob' := True) ?_ trivial; simp only [peval, hx, er]; rfl
  · rename_i o e n t
    split at h
    · rename_i xs hL
      cases h
      have hob : n = xs.length := hob
      subst hob
      have hl : (tc eU8 xs).length = xs.length := by rw [tc_len]; simp [EL.len]
      have ht : ((tc eU8 xs).drop 0).take xs.length = tc eU8 xs := by rw [List.drop_zero, List.take_of_length_le (by omega)]
      have hbb := bytes_tc xs
      refine Good1.of (ob' := 0 + xs.length ≤ (tc eU8 xs).length ∧ ∀ p ∈ ((tc eU8 xs).drop 0).take xs.length, ∃ k : Int, p = .d (.int .u8 k)) ?_ ⟨by omega, fun p hp => ?_⟩
      · simp only [peval, hx, er, erOL_get, hL, Option.map_some, erO, ht, hbb]; rfl
      · rw [ht] at hp; exact tc_u8_mem p hp
    · cases h
  · rename_i o e s n t
    split at h
    · rename_i xs hL
      split at h
      · rename_i he
        cases h
        have hob : s + n ≤ xs.length := hob
        have hl : (tc eU8 xs).length = xs.length := by rw [tc_len]; simp [EL.len]
        have ht : ((tc eU8 xs).drop (s * e.len)).take n = tc eU8 (sub xs s n) := by
          rw [tc_sub, he]; simp [EL.len]
        have hbb := bytes_tc (sub xs s n)
        refine Good1.of (ob' := s * e.len + n ≤ (tc eU8 xs).length ∧ ∀ p ∈ ((tc eU8 xs).drop (s * e.len)).take n, ∃ k : Int, p = .d (.int .u8 k)) ?_ ⟨by rw [hl, he]; omega, fun p hp => ?_⟩
        · simp only [peval, hx, er, erOL_get, hL, Option.map_some, erO, ht, hbb]; rfl
        · rw [ht] at hp; exact tc_u8_mem p hp
      · cases h
    · cases h
  · rename_i o off n z t
    split at h
    · rename_i cs hL
      split at h
      · rename_i hc
        simp only [Option.map_eq_some_iff, Prod.mk.injEq] at h
        obtain ⟨xs, hxs, rfl, rfl⟩ := h
        have hi := ints_spec hxs
        have hi' : ((erL cs).drop off).take n = erL (xs.map (.int .u8 ·)) := by rw [← hi, erL_take, erL_drop]
        refine Good1.of (ob' := off + n ≤ (erL cs).length ∧ ∀ p ∈ ((erL cs).drop off).take n, ∃ k : Int, p = .d (.int .u8 k)) ?_ ⟨by rw [erL_len]; exact hc, fun p hp => ?_⟩
        · simp only [peval, hx, er, erOL_get, hL, Option.map_some, erO, hi', bytes_ints]; rfl
        · rw [hi'] at hp
          simp [erL_map, er] at hp
          obtain ⟨a, _, rfl⟩ := hp; exact ⟨a, rfl⟩
      · cases h
    · cases h
  · cases h

theorem mark_sound {env : List PV} {x : Operand} {v : TV} (hx : ev env x = er v) (h : tMark L v = some (ob, out)) (hob : obl ob) : Good1 (peval env (erOL L) (.mark x)) out := by
  unfold tMark at h
  split at h
  · rename_i q off n z t
    split at h
    · rename_i cs hL
      split at h
      · rename_i hc
        obtain ⟨rfl, rfl, c1, rfl⟩ := hc
        simp only [Option.map_eq_some_iff, Prod.mk.injEq] at h
        obtain ⟨xs, hxs, rfl, rfl⟩ := h
        have hi := ints_spec hxs
        refine Good1.of (ob' := (0 : Nat) = 0 ∧ (1 : Nat) = 1 ∧ 1 ≤ cs.length ∧ cs.length = (erL cs).length ∧ ∀ p ∈ erL cs, ∃ x, p = .d x) ?_ ⟨rfl, rfl, c1, (erL_len cs).symm, fun p hp => ?_⟩
        · simp only [peval, hx, er, erOL_get, hL, Option.map_some, erO]
          congr 3
          rw [hi]
          simp only [er, TOut.er, tl, erL_map, List.map_map]
          congr 1
        · rw [hi] at hp
          simp [erL_map, er] at hp
          obtain ⟨a, _, rfl⟩ := hp; exact ⟨_, rfl⟩
      · cases h
    · cases h
  · cases h

theorem faddr_sound {env : List PV} {x : Operand} {off : Nat} {v : TV} (hx : ev env x = er v) (h : tFaddr off v = some (ob, out)) : Good1 (peval env (erOL L) (.faddr off x)) out := by
  unfold tFaddr at h
  split at h <;> first
    | (cases h; done)
    | (cases h; refine Good1.of (ob' := True) ?_ trivial; simp only [peval, hx, er, Nat.add_assoc]; rfl)

theorem iaddr_sound {env : List PV} {x i : Operand} {z : Nat} {n : Int} {v : TV} (hx : ev env x = er v) (hi : idx? (ev env i) = some n) (h : tIaddr z n v = some (ob, out)) (hob : obl ob) : Good1 (peval env (erOL L) (.iaddr z x i)) out := by
  unfold tIaddr at h
  split at h
  · rename_i e xs
    split at h
    · rename_i hz
      subst hz
      cases h
      obtain ⟨h0, h1⟩ := hob
      refine Good1.of (ob' := 0 ≤ n ∧ n.toNat < (tl e xs).length ∧ (((tl e xs)[n.toNat]?).getD []).length = e.len) ?_ ⟨h0, by rw [tl_len]; exact h1, by rw [tl_get h1, dv_len]⟩
      simp only [peval, hx, er, hi, tl_get h1]; rfl
    · cases h
  · rename_i o e m t
    split at h
    · rename_i hz
      subst hz
      cases h
      refine Good1.of (ob' := 0 ≤ n ∧ n.toNat < m) ?_ hob
      simp only [peval, hx, er, hi, if_true, Nat.zero_add]; rfl
    · cases h
  · rename_i o e s m t
    split at h
    · rename_i hz
      subst hz
      cases h
      refine Good1.of (ob' := 0 ≤ n ∧ n.toNat < m) ?_ hob
      simp only [peval, hx, er, hi, if_true, er_pure, plusN_eq, Nat.add_mul, Nat.add_zero]
    · cases h
  · rename_i o off m z' t
    split at h
    · rename_i hz
      subst hz
      cases h
      refine Good1.of (ob' := 0 ≤ n ∧ n.toNat < m) ?_ hob
      simp only [peval, hx, er, hi, if_true]; rfl
    · cases h
  · cases h

theorem len_sound {env : List PV} {x : Operand} {v : TV} (hx : ev env x = er v) (h : tLen v = some (ob, out)) : Good1 (peval env (erOL L) (.len x)) out := by
  unfold tLen at h
  split at h <;> first
    | (cases h; done)
    | (cases h; refine Good1.of (ob' := True) ?_ trivial; simp only [peval, hx, er, tl_len]; rfl)

end Go.Fw
