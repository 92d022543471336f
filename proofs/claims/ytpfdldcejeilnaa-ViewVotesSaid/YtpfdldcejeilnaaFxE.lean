import Derived.Test.YtpfdldcejeilnaaFxD
set_option linter.unusedVariables false
set_option linter.unusedSimpArgs false
namespace Go.Fw
open Go

/-! ### Names: renaming and what is reached -/

mutual
def tren (r : Nat → Nat) : TV → TV
  | .agg cs => .agg (trenL r cs)
  | .tup cs => .tup (trenL r cs)
  | .ptr o off => .ptr (r o) off
  | .ep o z i off => .ep (r o) z i off
  | .ls o off n z t => .ls (r o) off n z t
  | .vf o e n t => .vf (r o) e n t
  | .vs o e s n t => .vs (r o) e s n t
  | .fn f a b => .fn f (trenL r a) (trenL r b)
  | .map o => .map (r o)
  | v => v
def trenL (r : Nat → Nat) : List TV → List TV
  | [] => []
  | v :: vs => tren r v :: trenL r vs
end
def trenO (r : Nat → Nat) : TO → TO
  | .arr cs => .arr (trenL r cs)
  | x => x
mutual
def refs : TV → List Nat
  | .agg cs => refsL cs
  | .tup cs => refsL cs
  | .ptr o _ => [o]
  | .ep o _ _ _ => [o]
  | .ls o _ _ _ _ => [o]
  | .vf o _ _ _ => [o]
  | .vs o _ _ _ _ => [o]
  | .fn _ a b => refsL a ++ refsL b
  | .map o => [o]
  | _ => []
def refsL : List TV → List Nat
  | [] => []
  | v :: vs => refs v ++ refsL vs
end
def refsO : TO → List Nat
  | .arr cs => refsL cs
  | _ => []

def pos : List Nat → Nat → Nat
  | [], _ => 0
  | k :: r, o => if k = o then 0 else pos r o + 1
def isIn : List Nat → Nat → Bool
  | [], _ => false
  | k :: r, o => if k = o then true else isIn r o
def allIn (ks : List Nat) : List Nat → Bool
  | [] => true
  | o :: r => isIn ks o && allIn ks r
theorem isIn_spec : ∀ {ks : List Nat} {o : Nat}, isIn ks o = true → pos ks o < ks.length ∧ nm ks (pos ks o) = o
  | [], o, h => by simp [isIn] at h
  | k :: r, o, h => by
    simp only [isIn] at h
    simp only [pos]
    split at h
    · rename_i hk; subst hk; simp [nm]
    · rename_i hk
      obtain ⟨h1, h2⟩ := isIn_spec h
      rw [if_neg hk]
      refine ⟨by simp; exact h1, ?_⟩
      simp only [nm] at h2 ⊢
      simpa using h2
theorem allIn_append {ks a b : List Nat} : allIn ks (a ++ b) = (allIn ks a && allIn ks b) := by
  induction a with
  | nil => simp [allIn]
  | cons x a ih => simp [allIn, ih, Bool.and_assoc]

mutual
theorem tren_back {ks : List Nat} : ∀ v : TV, allIn ks (refs v) = true → ren (nm ks) (er (tren (pos ks) v)) = er v ∧ bnd_ ks.length (er (tren (pos ks) v)) = true
  | .int _ _, _ => ⟨rfl, rfl⟩
  | .bool _, _ => ⟨rfl, rfl⟩
  | .str _, _ => ⟨rfl, rfl⟩
  | .nilp, _ => ⟨rfl, rfl⟩
  | .nilf, _ => ⟨rfl, rfl⟩
  | .sl _ _, _ => ⟨rfl, rfl⟩
  | .fp _ _ _, _ => ⟨rfl, rfl⟩
  | .nilsl, _ => ⟨rfl, rfl⟩
  | .zsl, _ => ⟨rfl, rfl⟩
  | .und, _ => ⟨rfl, rfl⟩
  | .dead, _ => ⟨rfl, rfl⟩
  | .agg cs, h => by
    simp only [refs] at h
    obtain ⟨h1, h2⟩ := trenL_back cs h
    simp only [tren, er, ren, h1, bnd_, h2, and_self]
  | .tup cs, h => by
    simp only [refs] at h
    obtain ⟨h1, h2⟩ := trenL_back cs h
    simp only [tren, er, ren, h1, bnd_, h2, and_self]
  | .fn f a b, h => by
    simp only [refs, allIn_append, Bool.and_eq_true] at h
    obtain ⟨h1, h2⟩ := trenL_back a h.1
    obtain ⟨h3, h4⟩ := trenL_back b h.2
    simp only [tren, er, ren, h1, h3, bnd_, h2, h4, Bool.and_self, and_self]
  | .ptr o off, h => by
    simp only [refs, allIn, Bool.and_true] at h
    obtain ⟨h1, h2⟩ := isIn_spec h
    simp only [tren, er, ren, h2, bnd_, h1, decide_true, and_self]
  | .ep o z i off, h => by
    simp only [refs, allIn, Bool.and_true] at h
    obtain ⟨h1, h2⟩ := isIn_spec h
    simp only [tren, er, ren, h2, bnd_, h1, decide_true, and_self]
  | .ls o off n z t, h => by
    simp only [refs, allIn, Bool.and_true] at h
    obtain ⟨h1, h2⟩ := isIn_spec h
    simp only [tren, er, ren, h2, bnd_, h1, decide_true, and_self]
  | .vf o e n t, h => by
    simp only [refs, allIn, Bool.and_true] at h
    obtain ⟨h1, h2⟩ := isIn_spec h
    simp only [tren, er, ren, h2, bnd_, h1, decide_true, and_self]
  | .vs o e s n t, h => by
    simp only [refs, allIn, Bool.and_true] at h
    obtain ⟨h1, h2⟩ := isIn_spec h
    simp only [tren, er, ren, h2, bnd_, h1, decide_true, and_self]
  | .map o, h => by
    simp only [refs, allIn, Bool.and_true] at h
    obtain ⟨h1, h2⟩ := isIn_spec h
    simp only [tren, er, ren, h2, bnd_, h1, decide_true, and_self]
theorem trenL_back {ks : List Nat} : ∀ vs : List TV, allIn ks (refsL vs) = true → renL (nm ks) (erL (trenL (pos ks) vs)) = erL vs ∧ bndL ks.length (erL (trenL (pos ks) vs)) = true
  | [], _ => ⟨rfl, rfl⟩
  | v :: vs, h => by
    simp only [refsL, allIn_append, Bool.and_eq_true] at h
    obtain ⟨h1, h2⟩ := tren_back v h.1
    obtain ⟨h3, h4⟩ := trenL_back vs h.2
    simp only [trenL, erL, renL, h1, h3, bndL, h2, h4, Bool.and_self, and_self]
end
theorem ren_tc (r : Nat → Nat) (e : EL) (xs : List e.T) : renL r (tc e xs) = tc e xs := by
  rw [tc]
  induction (tl e xs).flatten with
  | nil => rfl
  | cons x l ih => simp only [List.map_cons, renL, ren, ih]
theorem bnd_tc (k : Nat) (e : EL) (xs : List e.T) : bndL k (tc e xs) = true := by
  rw [tc]
  induction (tl e xs).flatten with
  | nil => rfl
  | cons x l ih => simp only [List.map_cons, bndL, bnd_, ih, Bool.and_self]

def reach (L : List TO) : Nat → List Nat → List Nat → List Nat
  | 0, _, acc => acc
  | _, [], acc => acc
  | f + 1, o :: r, acc => if isIn acc o = true then reach L f r acc else reach L f (r ++ refsO ((L[o]?).getD .dead)) (acc ++ [o])
def nodupB : List Nat → Bool
  | [] => true
  | k :: r => !isIn r k && nodupB r
theorem isIn_mem : ∀ {ks : List Nat} {o : Nat}, isIn ks o = true ↔ o ∈ ks
  | [], o => by simp [isIn]
  | k :: r, o => by
    simp only [isIn, List.mem_cons]
    split
    · rename_i h; simp [h]
    · rename_i h
      rw [isIn_mem (ks := r)]
      constructor
      · exact .inr
      · rintro (h' | h')
        · exact absurd h'.symm h
        · exact h'
theorem nodupB_spec : ∀ {ks : List Nat}, nodupB ks = true → ks.Nodup
  | [], _ => List.nodup_nil
  | k :: r, h => by
    simp only [nodupB, Bool.and_eq_true, Bool.not_eq_true'] at h
    refine List.nodup_cons.2 ⟨fun hm => ?_, nodupB_spec h.2⟩
    rw [isIn_mem.2 hm] at h; simp at h
def headB : List Nat → Nat → Nat → Bool
  | _, _, 0 => true
  | [], _, _ + 1 => false
  | k :: r, i, n + 1 => (if k = i then true else false) && headB r (i + 1) n
theorem headB_spec : ∀ {ks : List Nat} {i n : Nat}, headB ks i n = true → n ≤ ks.length ∧ ∀ j, j < n → ks[j]? = some (i + j)
  | _, _, 0, _ => ⟨by omega, fun j h => by omega⟩
  | [], _, _ + 1, h => by simp [headB] at h
  | k :: r, i, n + 1, h => by
    simp only [headB, Bool.and_eq_true] at h
    obtain ⟨h1, h2⟩ := h
    obtain ⟨h3, h4⟩ := headB_spec h2
    have hk : k = i := by
      split at h1
      · assumption
      · cases h1
    subst hk
    refine ⟨by simp; omega, fun j hj => ?_⟩
    cases j with
    | zero => simp
    | succ j =>
      have := h4 j (by omega)
      simp only [List.getElem?_cons_succ, this]
      congr 1; omega
def ltB (n : Nat) : List Nat → Bool
  | [] => true
  | k :: r => (if k < n then true else false) && ltB n r
theorem ltB_spec {n : Nat} : ∀ {ks : List Nat}, ltB n ks = true → ∀ k ∈ ks, k < n
  | [], _, k, h => by cases h
  | k :: r, h, x, hx => by
    simp only [ltB, Bool.and_eq_true] at h
    rcases List.mem_cons.1 hx with rfl | hx
    · have := h.1
      split at this
      · assumption
      · cases this
    · exact ltB_spec h.2 x hx

def gcL (ks : List Nat) (L : List TO) : List Nat → List TO
  | [] => []
  | k :: r => trenO (pos ks) ((L[k]?).getD .dead) :: gcL ks L r
def refsOL (ks : List Nat) (L : List TO) : List Nat → Bool
  | [] => true
  | k :: r => allIn ks (refsO ((L[k]?).getD .dead)) && refsOL ks L r
def gc (n0 : Nat) (env : List TV) (L : List TO) : Option (List TV × List TO) :=
  let ks := reach L 4000 (List.range n0 ++ refsL env) []
  if headB ks 0 n0 && nodupB ks && ltB L.length ks && allIn ks (refsL env) && refsOL ks L ks then some (trenL (pos ks) env, gcL ks L ks) else none

theorem gcL_len (ks : List Nat) (L : List TO) : ∀ l, (gcL ks L l).length = l.length
  | [] => rfl
  | k :: r => by simp [gcL, gcL_len ks L r]

theorem sameO_gc {ks : List Nat} {L : List TO} : ∀ {l : List Nat} {i : Nat}, refsOL ks L l = true → (∀ k ∈ l, k < L.length) → (∀ j k, l[j]? = some k → nm ks (i + j) = k) → SameO ks (erOL L) (erOL (gcL ks L l)) i
  | [], i, _, _, _ => trivial
  | k :: r, i, h, hlt, hnm => by
    simp only [refsOL, Bool.and_eq_true] at h
    have hk : nm ks i = k := by have := hnm 0 k (by simp); simpa using this
    have hl := hlt k (by simp)
    refine ⟨?_, sameO_gc h.2 (fun x hx => hlt x (by simp [hx])) (fun j x hx => by
      have := hnm (j + 1) x (by simpa using hx)
      rw [show i + 1 + j = i + (j + 1) from by omega]; exact this)⟩
    have hLk : L[k]? = some L[k] := List.getElem?_eq_getElem hl
    rw [hLk] at h ⊢
    simp only [Option.getD_some] at h ⊢
    rw [hk, erOL_get, hLk]
    generalize L[k] = x at h
    cases x with
    | dead => exact .inl rfl
    | vec e xs =>
      refine .inr ⟨?_, bnd_tc _ _ _⟩
      simp only [trenO, erO, renO, ren_tc, Option.map_some]
    | arr cs =>
      obtain ⟨h1, h2⟩ := trenL_back cs h.1
      refine .inr ⟨?_, h2⟩
      simp only [trenO, erO, renO, h1, Option.map_some]

theorem gc_sound {n0 : Nat} {env env' : List TV} {L L' : List TO} (h : gc n0 env L = some (env', L')) : Wk n0 (erL env) (erOL L) (erL env') (erOL L') := by
  unfold gc at h
  simp only at h
  generalize reach L 4000 (List.range n0 ++ refsL env) [] = ks at h
  split at h
  · rename_i hc
    simp only [Bool.and_eq_true] at hc
    obtain ⟨⟨⟨⟨c1, c2⟩, c3⟩, c4⟩, c5⟩ := hc
    cases h
    obtain ⟨h1, h2⟩ := headB_spec c1
    obtain ⟨h3, h4⟩ := trenL_back env c4
    have hlt := ltB_spec c3
    refine wk_ren ks (by rw [erOL_len, gcL_len]) h1 (fun i hi => by have := h2 i hi; simpa using this) (nodupB_spec c2) (fun k hk => by rw [erOL_len]; exact hlt k hk) (by rw [h3]; exact LeL.refl _) h4 ?_
    exact sameO_gc c5 hlt (fun j k hk => by simp [nm, hk])
  · cases h

/-! ### Steps that forget -/

/-- A place: in what a slot holds; a cell of the object that a slot points to; a cell of an object. -/
inductive Pl where
  | s (t : Nat) (path : List Nat)
  | o (t i : Nat)
  | c (o i : Nat)

inductive Ann where
  | mask (keep : List Nat)
  | gc
  | fit (p : Pl) (e : EL)
  | own (p : Pl) (e : EL)
  | len (p : Pl)

/-- Slots to keep, rising; the others are forgotten. -/
def maskE : List Nat → Nat → List TV → List TV
  | _, _, [] => []
  | [], i, v :: r => .dead :: maskE [] (i + 1) r
  | k :: ks, i, v :: r => if k = i then v :: maskE ks (i + 1) r else .dead :: maskE (k :: ks) (i + 1) r
theorem maskE_le : ∀ (ks : List Nat) (i : Nat) (env : List TV), LeL (erL env) (erL (maskE ks i env))
  | [], i, [] => trivial
  | k :: ks, i, [] => trivial
  | [], i, v :: r => ⟨Le.dead _, maskE_le [] (i + 1) r⟩
  | k :: ks, i, v :: r => by
    simp only [maskE]
    split
    · exact ⟨Le.refl _, maskE_le ks (i + 1) r⟩
    · exact ⟨Le.dead _, maskE_le (k :: ks) (i + 1) r⟩

theorem wk_le {n0 : Nat} {env env' : List PV} {L : List PObj} (h : LeL env env') : Wk n0 env L env' L := fun L0 g0 w0 g a w hn hst => by
  obtain ⟨hl, hg⟩ := h.get
  exact ⟨g, { hst with ra := ⟨by rw [hst.ra.size, hl], fun t p hp => by
    obtain ⟨q, hq, hqp⟩ := hg t p hp
    exact hqp g _ (hst.ra.rep t q hq), hst.ra.defers⟩ }⟩

/-- One value is told anew, and the objects with it. -/
def Fz (L L' : List TO) (v v' : TV) : Prop :=
  ∀ (L0 : List PObj) (g0 : Gh) (w0 : World) (g : Gh) (env : List PV) (a : Act) (w : World), St L0 g0 w0 g env (erOL L) a w →
    ∃ g', St L0 g0 w0 g' env (erOL L') a w ∧ Gle g g' ∧ g'.at_ = g.at_ ∧ (∀ b i x, g.fr b i = some x → g'.fr b i = some x) ∧ ∀ u, Rep g u (er v) → Rep g' u (er v')

theorem Fz.refl (L : List TO) (v : TV) : Fz L L v v := fun L0 g0 w0 g env a w h => ⟨g, h, Gle.refl g, rfl, fun _ _ _ h => h, fun _ h => h⟩
theorem Fz.le {L : List TO} {v v' : TV} (h : Le (er v) (er v')) : Fz L L v v' := fun L0 g0 w0 g env a w hs => ⟨g, hs, Gle.refl g, rfl, fun _ _ _ h => h, fun u hr => h g u hr⟩

theorem frL_set {o : Nat} {ds : List DV} : ∀ (L : List PObj) (i j : Nat), i + j = o → FrL o ds L (L.set j .dead) i
  | [], i, j, h => trivial
  | a :: L, i, 0, h => ⟨.inl rfl, by
      have : ∀ (L : List PObj) (k : Nat), o < k → FrL o ds L L k := by
        intro L
        induction L with
        | nil => intro k _; trivial
        | cons b L ih => intro k hk; exact ⟨.inr ⟨by omega, .inl rfl⟩, ih (k + 1) (by omega)⟩
      exact this L (i + 1) (by omega)⟩
  | a :: L, i, j + 1, h => ⟨.inr ⟨by omega, .inl rfl⟩, frL_set L (i + 1) j (by omega)⟩

theorem Fz.frz {L : List TO} {v v' : TV} {o : Nat} {cs : List PV} {ds : List DV} (hL : (erOL L)[o]? = some (.arr cs)) (hc : LeL cs (ds.map .d)) (hv : LeO o ds (er v) (er v')) : Fz L (L.set o .dead) v v' := by
  intro L0 g0 w0 g env a w hst
  have hset : erOL (L.set o .dead) = (erOL L).set o .dead := by simp [erOL, List.map_set, erO]
  obtain ⟨g1, f1, f2, f3, f4, h⟩ := frz_st o cs ds hL hc (LeOL.refl env) (frL_set (erOL L) 0 o (by omega)) hst
  refine ⟨g1, by rw [hset]; exact h, ⟨f1, fun o b hb => ⟨by rw [f2]; exact hb, by rw [f3]⟩⟩, f2, f1, fun u hr => hv g g1 u f1 f2 f3 f4 hr⟩

theorem LeO.vec {o : Nat} {e : EL} {xs : List e.T} {s n : Nat} {t : Bool} (h : s + n ≤ xs.length) : LeO o (tl e xs).flatten (.osl o (s * e.len) n e.len t) (.d (.sl (tl e (sub xs s n)))) := by
  refine LeO.osl (by simp [tl_len, sub]; omega) tl_mem ?_ ?_
  · rw [sub, tl_take, tl_drop, tflat_take n (fun x hx => tl_mem x (List.mem_of_mem_drop hx)), tflat_drop s tl_mem]
  · rw [tflat_len tl_mem, tl_len, ← Nat.add_mul]; exact Nat.mul_le_mul_right _ h
theorem sub_all {α : Type} (xs : List α) : sub xs 0 xs.length = xs := by simp [sub]

/-- An object's cells told anew. -/
theorem st_obj {L0 : List PObj} {g0 : Gh} {w0 : World} {g : Gh} {env : List PV} {L : List PObj} {a : Act} {w : World} {o : Nat} {cs cs' : List PV} (hst : St L0 g0 w0 g env L a w) (hL : L[o]? = some (.arr cs)) (hl : cs'.length ≤ cs.length)
    (hc : ∀ (i : Nat) p p', cs[i]? = some p → cs'[i]? = some p' → ∀ u, g.at_ o ≠ none → Rep g u p → Rep g u p') : St L0 g0 w0 g env (L.set o (.arr cs')) a w := by
  have hol := (List.getElem?_eq_some_iff.1 hL).1
  have other : ∀ m, m ≠ o → Lf (L.set o (.arr cs')) m = Lf L m := fun m hm => by simp [Lf, List.getElem?_set_ne (Ne.symm hm)]
  have at_o : Lf (L.set o (.arr cs')) o = .arr cs' := by simp [Lf, hol]
  have live : ∀ m, Live (Lf (L.set o (.arr cs')) m) = Live (Lf L m) := fun m => by
    by_cases hm : m = o
    · subst hm; rw [at_o, Lf_some hL]; rfl
    · rw [other m hm]
  exact {
    ra := hst.ra
    rh := {
      fr := hst.rh.fr
      obj := fun m => by
        by_cases hm : m = o
        · subst hm
          rw [at_o]
          have := hst.rh.obj m
          rw [Lf_some hL] at this
          rcases this with ⟨e1, e2⟩ | ⟨b, c, e, h1, h2, h3, h4, h5, h6, h7⟩
          · subst e1
            refine .inl ⟨List.length_eq_zero_iff.1 (by simpa using hl), e2⟩
          · refine .inr ⟨b, c, e, h1, h2, by omega, h4, fun i v hi hv => h5 i v (by omega) hv, fun i v p hv hp => ?_, h7⟩
            have hi : i < cs.length := by have := (List.getElem?_eq_some_iff.1 hp).1; omega
            exact hc i _ p (List.getElem?_eq_getElem hi) hp v (by rw [h1]; simp) (h6 i v _ hv (List.getElem?_eq_getElem hi))
        · rw [other m hm]; exact hst.rh.obj m
      inj := fun m m' b h h' hl hl' => hst.rh.inj m m' b h h' (by rw [← live]; exact hl) (by rw [← live]; exact hl') }
    new := fun m hm => hst.new m (by simpa using hm)
    os := hst.os
    tape := hst.tape
    output := hst.output
    size := hst.size
    block := hst.block
    frle := hst.frle
    len := by simpa using hst.len
    at0 := hst.at0
    frn := hst.frn
    own := fun m hl b hb => hst.own m (by rw [← live]; exact hl) b hb }

/-- A new object without cells. -/
theorem st_new {L0 : List PObj} {g0 : Gh} {w0 : World} {g : Gh} {env : List PV} {L : List PObj} {a : Act} {w : World} (hst : St L0 g0 w0 g env L a w) : St L0 g0 w0 g env (L ++ [.arr []]) a w := by
  have hat : g.at_ L.length = none := hst.new _ (Nat.le_refl _)
  have get : ∀ m, m ≠ L.length → Lf (L ++ [.arr []]) m = Lf L m := fun m hm => by
    unfold Lf
    by_cases h : m < L.length
    · rw [List.getElem?_append_left h]
    · rw [List.getElem?_eq_none (by simp; omega), List.getElem?_eq_none (by omega)]
  exact {
    ra := hst.ra
    rh := {
      fr := hst.rh.fr
      obj := fun m => by
        by_cases hm : m = L.length
        · subst hm; simp only [Lf, List.getElem?_append_right (Nat.le_refl _), Nat.sub_self, List.getElem?_cons_zero, Option.getD_some]
          exact .inl ⟨rfl, hat⟩
        · rw [get m hm]; exact hst.rh.obj m
      inj := fun m m' b h h' hl hl' => by
        have h1 : m ≠ L.length := fun e => by rw [e, hat] at h; cases h
        have h2 : m' ≠ L.length := fun e => by rw [e, hat] at h'; cases h'
        exact hst.rh.inj m m' b h h' (by rw [← get m h1]; exact hl) (by rw [← get m' h2]; exact hl') }
    new := fun m hm => hst.new m (by simp at hm; omega)
    os := hst.os
    tape := hst.tape
    output := hst.output
    size := hst.size
    block := hst.block
    frle := hst.frle
    len := by simp; have := hst.len; omega
    at0 := hst.at0
    frn := hst.frn
    own := fun m hl b hb => by
      have h1 : m ≠ L.length := fun e => by rw [e, hat] at hb; cases hb
      exact hst.own m (by rw [← get m h1]; exact hl) b hb }

theorem Le.nilosl (o z : Nat) (t : Bool) : Le .nilsl (.osl o 0 0 z t) := fun g v h => by cases h; exact .osl0 _ _ _ _ _
theorem Le.zslosl (o z : Nat) (t : Bool) : Le .zsl (.osl o 0 0 z t) := fun g v h => by cases h; exact .osl0 _ _ _ _ _

/-- A slice that nobody writes to any more. -/
def fitV (L : List TO) (e : EL) : TV → Option (Option Prop × TV × List TO)
  | .sl e' xs => some (none, .sl e' xs, L)
  | .nilsl | .zsl => some (none, .sl e [], L)
  | .vf o e1 n t =>
    match L[o]? with
    | some (.vec e' xs) => if EL.beq e1 e' = true then some (some (n = xs.length), .sl e' xs, L.set o .dead) else none
    | _ => none
  | .vs o e1 s n t =>
    match L[o]? with
    | some (.vec e' xs) => if EL.beq e1 e' = true then some (some (s + n ≤ xs.length), .sl e' (sub xs s n), L.set o .dead) else none
    | _ => none
  | .ls o off n z t =>
    match L[o]? with
    | some (.arr cs) => if z = e.len ∧ off = 0 ∧ n * z = cs.length then (decs e n cs).map fun xs => (none, .sl e xs, L.set o .dead) else none
    | _ => none
  | v => some (none, v, L)
/-- A slice that may grow. -/
def ownV (L : List TO) (e : EL) : TV → Option (Option Prop × TV × List TO)
  | .nilsl | .zsl => some (none, .vf L.length e 0 false, L ++ [.vec e []])
  | .vf o e1 n t => some (none, .vf o e1 n false, L)
  | .vs o e1 s n t =>
    match L[o]? with
    | some (.vec e' xs) => if EL.beq e1 e' = true ∧ s = 0 then some (some (n ≤ xs.length), .vf o e' (xs.take n).length false, L.set o (.vec e' (xs.take n))) else none
    | _ => none
  | .ls o off n z t =>
    match L[o]? with
    | some (.arr cs) => if z = e.len ∧ off = 0 ∧ n * z = cs.length then (decs e n cs).map fun xs => (none, .vf o e xs.length false, L.set o (.vec e xs)) else none
    | _ => none
  | v => some (none, v, L)

/-- A slice of all of an array: its length as the array's. -/
def lenV (L : List TO) : TV → Option (Option Prop × TV × List TO)
  | .vf o e1 n t =>
    match L[o]? with
    | some (.vec _ xs) => some (some (n = xs.length), .vf o e1 xs.length t, L)
    | _ => none
  | v => some (none, v, L)
theorem lenV_sound {L L' : List TO} {v v' : TV} {ob : Option Prop} (h : lenV L v = some (ob, v', L')) (hob : obl ob) : Fz L L' v v' := by
  unfold lenV at h
  split at h
  · split at h
    · cases h
      have hob : _ = _ := hob
      rw [hob]; exact Fz.refl _ _
    · cases h
  · cases h; exact Fz.refl _ _

theorem fitV_sound {L L' : List TO} {e : EL} {v v' : TV} {ob : Option Prop} (h : fitV L e v = some (ob, v', L')) (hob : obl ob) : Fz L L' v v' := by
  unfold fitV at h
  split at h
  · cases h; exact Fz.refl _ _
  · cases h; exact Fz.le Le.nilsl
  · cases h; exact Fz.le Le.zsl
  · rename_i o e1 n t
    split at h
    · rename_i e' xs hL
      split at h
      · rename_i hb
        have hb := EL.beq_eq hb; subst hb
        cases h
        have hob : n = xs.length := hob
        subst hob
        refine Fz.frz (cs := tc e1 xs) (ds := (tl e1 xs).flatten) (by rw [erOL_get, hL]; rfl) (LeL.refl _) ?_
        have := LeO.vec (o := o) (e := e1) (xs := xs) (s := 0) (n := xs.length) (t := t) (by omega)
        rw [sub_all, Nat.zero_mul] at this
        exact this
      · cases h
    · cases h
  · rename_i o e1 s n t
    split at h
    · rename_i e' xs hL
      split at h
      · rename_i hb
        have hb := EL.beq_eq hb; subst hb
        cases h
        exact Fz.frz (cs := tc e1 xs) (ds := (tl e1 xs).flatten) (by rw [erOL_get, hL]; rfl) (LeL.refl _) (LeO.vec hob)
      · cases h
    · cases h
  · rename_i o off n z t
    split at h
    · rename_i cs hL
      split at h
      · rename_i hc
        obtain ⟨rfl, rfl, hc⟩ := hc
        simp only [Option.map_eq_some_iff, Prod.mk.injEq] at h
        obtain ⟨xs, hx, rfl, rfl, rfl⟩ := h
        obtain ⟨hl, hle⟩ := decs_spec hx
        refine Fz.frz (cs := erL cs) (ds := (tl e xs).flatten) (by rw [erOL_get, hL]; rfl) hle ?_
        subst hl
        have := LeO.vec (o := o) (e := e) (xs := xs) (s := 0) (n := xs.length) (t := t) (by omega)
        rw [sub_all, Nat.zero_mul] at this
        exact this
      · cases h
    · cases h
  · cases h; exact Fz.refl _ _

theorem ownV_sound {L L' : List TO} {e : EL} {v v' : TV} {ob : Option Prop} (h : ownV L e v = some (ob, v', L')) (hob : obl ob) : Fz L L' v v' := by
  have happ : ∀ e, erOL (L ++ [.vec e []]) = erOL L ++ [.arr []] := fun e => by simp [erOL, erO, tc, tl]
  unfold ownV at h
  split at h
  · cases h
    intro L0 g0 w0 g env a w hst
    exact ⟨g, by rw [happ]; exact st_new hst, Gle.refl g, rfl, fun _ _ _ h => h, fun u hr => Le.nilosl _ _ _ g u hr⟩
  · cases h
    intro L0 g0 w0 g env a w hst
    exact ⟨g, by rw [happ]; exact st_new hst, Gle.refl g, rfl, fun _ _ _ h => h, fun u hr => Le.zslosl _ _ _ g u hr⟩
  · cases h; exact Fz.le (Le.loose _ _ _ _ _)
  · rename_i o e1 sx n t
    split at h
    · rename_i e' xs hL
      split at h
      · rename_i hb
        obtain ⟨hb, rfl⟩ := hb
        have hb := EL.beq_eq hb; subst hb
        cases h
        have hob : n ≤ xs.length := hob
        intro L0 g0 w0 g env a w hst
        have hset : erOL (L.set o (.vec e1 (xs.take n))) = (erOL L).set o (.arr (tc e1 (xs.take n))) := by simp [erOL, List.map_set, erO]
        refine ⟨g, ?_, Gle.refl g, rfl, fun _ _ _ h => h, fun u hr => ?_⟩
        · rw [hset]
          refine st_obj hst (cs := tc e1 xs) (by rw [erOL_get, hL]; rfl) (by rw [tc_len, tc_len]; exact Nat.mul_le_mul_right _ (by simp; omega)) (fun i p p' hp hp' u _ hr => ?_)
          rw [tc_take] at hp'
          have hi : i < n * e1.len := by
            have := (List.getElem?_eq_some_iff.1 hp').1
            rw [List.length_take] at this; omega
          rw [List.getElem?_take_of_lt hi, hp] at hp'
          cases hp'; exact hr
        · have hl : (xs.take n).length = n := by simp; omega
          simp only [er, hl, Nat.zero_mul] at hr ⊢
          exact Le.loose _ _ _ _ _ g u hr
      · cases h
    · cases h
  · rename_i o off n z t
    split at h
    · rename_i cs hL
      split at h
      · rename_i hc
        obtain ⟨rfl, rfl, hc⟩ := hc
        simp only [Option.map_eq_some_iff, Prod.mk.injEq] at h
        obtain ⟨xs, hx, rfl, rfl, rfl⟩ := h
        obtain ⟨hl, hle⟩ := decs_spec hx
        intro L0 g0 w0 g env a w hst
        have hset : erOL (L.set o (.vec e xs)) = (erOL L).set o (.arr (tc e xs)) := by simp [erOL, List.map_set, erO]
        obtain ⟨hll, hg⟩ := hle.get
        refine ⟨g, ?_, Gle.refl g, rfl, fun _ _ _ h => h, fun u hr => ?_⟩
        · rw [hset]
          refine st_obj hst (cs := erL cs) (by rw [erOL_get, hL]; rfl) (by omega) (fun i p p' hp hp' u _ hr => ?_)
          obtain ⟨q, hq, hqp⟩ := hg i p' hp'
          rw [hp] at hq; cases hq
          exact hqp g u hr
        · subst hl
          exact Le.loose _ _ _ _ _ g u hr
      · cases h
    · cases h
  · cases h; exact Fz.refl _ _

end Go.Fw
