import Derived.Test.YtpfdldcejeilnaaFxE
set_option linter.unusedVariables false
set_option linter.unusedSimpArgs false
namespace Go.Fw
open Go

/-! ### Forgetting, by what is written into the code -/

/-- A value within a value. -/
def turnIn (f : List TO → TV → Option (Option Prop × TV × List TO)) : List Nat → List TO → TV → Option (Option Prop × TV × List TO)
  | [], L, v => f L v
  | i :: p, L, v =>
    match v with
    | .agg cs =>
      match cs[i]? with
      | some x => (turnIn f p L x).map fun (ob, x', L') => (ob, .agg (cs.set i x'), L')
      | none => none
    | .tup cs =>
      match cs[i]? with
      | some x => (turnIn f p L x).map fun (ob, x', L') => (ob, .tup (cs.set i x'), L')
      | none => none
    | v => some (none, v, L)
def turnC (f : List TO → TV → Option (Option Prop × TV × List TO)) (o k : Nat) (L : List TO) : Option (Option Prop × List TO) :=
  match L[o]? with
  | some (.arr cs) =>
    match cs[k]? with
    | some v =>
      match f L v with
      | some (ob, v', L1) =>
        match L1[o]? with
        | some (.arr cs1) => if cs.length = cs1.length then some (ob, L1.set o (.arr (cs.set k v'))) else none
        | _ => none
      | none => none
    | none => none
  | _ => none
def turnP (f : List TO → TV → Option (Option Prop × TV × List TO)) (p : Pl) (env : List TV) (L : List TO) : Option (Option Prop × List TV × List TO) :=
  match p with
  | .s t path =>
    match env[t]? with
    | some v => (turnIn f path L v).map fun (ob, v', L') => (ob, env.set t v', L')
    | none => none
  | .o t i =>
    match env[t]? with
    | some (.ptr o off) => (turnC f o (off + i) L).map fun (ob, L') => (ob, env, L')
    | _ => some (none, env, L)
  | .c o i => (turnC f o i L).map fun (ob, L') => (ob, env, L')
def annOne (n0 : Nat) (env : List TV) (L : List TO) : Ann → Option (Option Prop × List TV × List TO)
  | .mask keep => some (none, maskE keep 0 env, L)
  | .gc => (gc n0 env L).map fun (e, l) => (none, e, l)
  | .fit p e => turnP (fun L => fitV L e) p env L
  | .own p e => turnP (fun L => ownV L e) p env L
  | .len p => turnP lenV p env L
def anns (n0 : Nat) : List Ann → List TV → List TO → Option (Option Prop × List TV × List TO)
  | [], env, L => some (none, env, L)
  | a :: r, env, L =>
    match annOne n0 env L a with
    | some (ob, env1, L1) =>
      match anns n0 r env1 L1 with
      | some (ob', env2, L2) => some (oand ob ob', env2, L2)
      | none => none
    | none => none

theorem set_same {A : Type} {l : List A} {i : Nat} {x : A} (h : l[i]? = some x) : l.set i x = l := by
  apply List.ext_getElem?
  intro j
  by_cases hj : i = j
  · subst hj
    obtain ⟨hlt, he⟩ := List.getElem?_eq_some_iff.1 h
    simp [List.getElem?_set, hlt, he]
  · simp [List.getElem?_set, hj]

theorem wk_slot {n0 : Nat} {env : List TV} {L L' : List TO} {t : Nat} {v v' : TV} (hv : env[t]? = some v) (h : Fz L L' v v') : Wk n0 (erL env) (erOL L) (erL (env.set t v')) (erOL L') := by
  intro L0 g0 w0 g a w hn hst
  obtain ⟨g', h1, h2, _, _, h3⟩ := h L0 g0 w0 g (erL env) a w hst
  refine ⟨g', { h1 with ra := ⟨?_, fun s p hp => ?_, h1.ra.defers⟩ }⟩
  · rw [h1.ra.size]; simp [erL_len]
  · rw [erL_get] at hp
    by_cases hs : s = t
    · subst hs
      have hlt := (List.getElem?_eq_some_iff.1 hv).1
      simp [List.getElem?_set, hlt] at hp
      subst hp
      exact h3 _ (hst.ra.rep s _ (by rw [erL_get, hv]; rfl))
    · rw [List.getElem?_set_ne (Ne.symm hs)] at hp
      exact h1.ra.rep s p (by rw [erL_get]; exact hp)

theorem agg_turn {g g' : Gh} {cs : List TV} {i : Nat} {v v' : TV} (hi : cs[i]? = some v) (hm : Gle g g') (h : ∀ u, Rep g u (er v) → Rep g' u (er v')) (u : Value) (hr : Rep g u (er (.agg cs))) : Rep g' u (er (.agg (cs.set i v'))) := by
  obtain ⟨vs, rfl, h1, h2, h3⟩ := rep_agg hr
  refine .agg vs _ (by rw [h1]; simp [erL_len]) h2 (fun j x c hx hc => ?_)
  rw [erL_get] at hc
  by_cases hj : j = i
  · subst hj
    have hlt := (List.getElem?_eq_some_iff.1 hi).1
    simp [List.getElem?_set, hlt] at hc
    subst hc
    exact h x (h3 j x _ hx (by rw [erL_get, hi]; rfl))
  · rw [List.getElem?_set_ne (Ne.symm hj)] at hc
    exact (h3 j x c hx (by rw [erL_get]; exact hc)).mono hm

theorem fz_agg {L L' : List TO} {cs : List TV} {i : Nat} {v v' : TV} (hi : cs[i]? = some v) (h : Fz L L' v v') : Fz L L' (.agg cs) (.agg (cs.set i v')) := by
  intro L0 g0 w0 g env a w hst
  obtain ⟨g', h1, h2, h2a, h2b, h3⟩ := h L0 g0 w0 g env a w hst
  exact ⟨g', h1, h2, h2a, h2b, fun u hr => agg_turn hi h2 h3 u hr⟩

/-- A cell of an object is told anew. -/
theorem wk_cell {n0 : Nat} {env : List TV} {L L1 : List TO} {o k : Nat} {cs cs1 : List TV} {v v' : TV} (hL : L[o]? = some (.arr cs)) (hk : cs[k]? = some v) (hL1 : L1[o]? = some (.arr cs1)) (hl : cs.length = cs1.length) (h : Fz L L1 v v') :
    Wk n0 (erL env) (erOL L) (erL env) (erOL (L1.set o (.arr (cs.set k v')))) := by
  intro L0 g0 w0 g a w hn hst
  obtain ⟨g', h1, h2, h2a, h2b, h3⟩ := h L0 g0 w0 g (erL env) a w hst
  refine ⟨g', ?_⟩
  have hset : erOL (L1.set o (.arr (cs.set k v'))) = (erOL L1).set o (.arr (erL (cs.set k v'))) := by simp [erOL, List.map_set, erO]
  rw [hset]
  have hol := (List.getElem?_eq_some_iff.1 hL1).1
  have hobj := hst.rh.obj o
  rw [Lf_some (x := .arr (erL cs)) (by rw [erOL_get, hL]; rfl)] at hobj
  have hobj1 := h1.rh.obj o
  rw [Lf_some (x := .arr (erL cs1)) (by rw [erOL_get, hL1]; rfl)] at hobj1
  have other : ∀ m, m ≠ o → Lf ((erOL L1).set o (.arr (erL (cs.set k v')))) m = Lf (erOL L1) m := fun m hm => by simp [Lf, List.getElem?_set_ne (Ne.symm hm)]
  have at_o : Lf ((erOL L1).set o (.arr (erL (cs.set k v')))) o = .arr (erL (cs.set k v')) := by simp [Lf, erOL_len, hol]
  have live : ∀ m, Live (Lf ((erOL L1).set o (.arr (erL (cs.set k v')))) m) = Live (Lf (erOL L1) m) := fun m => by
    by_cases hm : m = o
    · subst hm; rw [at_o, Lf_some (x := .arr (erL cs1)) (by rw [erOL_get, hL1]; rfl)]; rfl
    · rw [other m hm]
  exact {
    ra := h1.ra
    rh := {
      fr := h1.rh.fr
      obj := fun m => by
        by_cases hm : m = o
        · subst hm
          rw [at_o]
          rcases hobj with ⟨e1, e2⟩ | ⟨b, c, e, q1, q2, q3, q4, q5, q6, q7⟩
          · have : cs = [] := List.length_eq_zero_iff.1 (by rw [← erL_len, e1]; rfl)
            subst this; simp at hk
          · rcases hobj1 with ⟨e1, e2⟩ | ⟨b', c', e', r1, r2, r3, r4, r5, r6, r7⟩
            · rw [h2a, q1] at e2; cases e2
            · rw [h2a, q1] at r1; cases r1
              rw [q2] at r2; cases r2
              refine .inr ⟨b, c, e, by rw [h2a]; exact q1, q2, by rw [erL_len, List.length_set, ← erL_len]; exact q3, r4, fun i u hi hu => q5 i u (by rw [erL_len, List.length_set] at hi; rw [erL_len]; exact hi) hu, fun i u p hu hp => ?_, r7⟩
              rw [erL_get] at hp
              by_cases hik : i = k
              · subst hik
                have hlt := (List.getElem?_eq_some_iff.1 hk).1
                simp [List.getElem?_set, hlt] at hp
                subst hp
                exact h3 u (q6 i u _ hu (by rw [erL_get, hk]; rfl))
              · rw [List.getElem?_set_ne (Ne.symm hik)] at hp
                exact (q6 i u p hu (by rw [erL_get]; exact hp)).mono h2
        · rw [other m hm]; exact h1.rh.obj m
      inj := fun m m' b h h' hl hl' => h1.rh.inj m m' b h h' (by rw [← live]; exact hl) (by rw [← live]; exact hl') }
    new := fun m hm => h1.new m (by simpa using hm)
    os := h1.os
    tape := h1.tape
    output := h1.output
    size := h1.size
    block := h1.block
    frle := h1.frle
    len := by simpa using h1.len
    at0 := h1.at0
    frn := h1.frn
    own := fun m hl b hb => h1.own m (by rw [← live]; exact hl) b hb }

theorem tup_turn {g g' : Gh} {cs : List TV} {i : Nat} {v v' : TV} (hi : cs[i]? = some v) (hm : Gle g g') (h : ∀ u, Rep g u (er v) → Rep g' u (er v')) (u : Value) (hr : Rep g u (er (.tup cs))) : Rep g' u (er (.tup (cs.set i v'))) := by
  obtain ⟨vs, rfl, h1, h3⟩ := rep_tup hr
  refine .tup vs _ (by rw [h1]; simp [erL_len]) (fun j x c hx hc => ?_)
  rw [erL_get] at hc
  by_cases hj : j = i
  · subst hj
    have hlt := (List.getElem?_eq_some_iff.1 hi).1
    simp [List.getElem?_set, hlt] at hc
    subst hc
    exact h x (h3 j x _ hx (by rw [erL_get, hi]; rfl))
  · rw [List.getElem?_set_ne (Ne.symm hj)] at hc
    exact (h3 j x c hx (by rw [erL_get]; exact hc)).mono hm
theorem fz_tup {L L' : List TO} {cs : List TV} {i : Nat} {v v' : TV} (hi : cs[i]? = some v) (h : Fz L L' v v') : Fz L L' (.tup cs) (.tup (cs.set i v')) := by
  intro L0 g0 w0 g env a w hst
  obtain ⟨g', h1, h2, h2a, h2b, h3⟩ := h L0 g0 w0 g env a w hst
  exact ⟨g', h1, h2, h2a, h2b, fun u hr => tup_turn hi h2 h3 u hr⟩
theorem turnIn_sound {f : List TO → TV → Option (Option Prop × TV × List TO)} (hf : ∀ L v ob v' L', f L v = some (ob, v', L') → obl ob → Fz L L' v v') : ∀ {p : List Nat} {L L' : List TO} {v v' : TV} {ob : Option Prop}, turnIn f p L v = some (ob, v', L') → obl ob → Fz L L' v v'
  | [], L, L', v, v', ob, h, hob => hf _ _ _ _ _ h hob
  | i :: p, L, L', v, v', ob, h, hob => by
    simp only [turnIn] at h
    split at h
    · rename_i cs
      split at h
      · rename_i x hx
        simp only [Option.map_eq_some_iff] at h
        obtain ⟨⟨ob1, x', L1⟩, h1, h2⟩ := h
        cases h2
        exact fz_agg hx (turnIn_sound hf h1 hob)
      · cases h
    · rename_i cs
      split at h
      · rename_i x hx
        simp only [Option.map_eq_some_iff] at h
        obtain ⟨⟨ob1, x', L1⟩, h1, h2⟩ := h
        cases h2
        exact fz_tup hx (turnIn_sound hf h1 hob)
      · cases h
    · cases h; exact Fz.refl _ _
theorem turnC_sound {n0 : Nat} {f : List TO → TV → Option (Option Prop × TV × List TO)} (hf : ∀ L v ob v' L', f L v = some (ob, v', L') → obl ob → Fz L L' v v') {o k : Nat} {env : List TV} {L L' : List TO} {ob : Option Prop} (h : turnC f o k L = some (ob, L')) (hob : obl ob) :
    Wk n0 (erL env) (erOL L) (erL env) (erOL L') := by
  unfold turnC at h
  split at h
  · rename_i cs hL
    split at h
    · rename_i v hv
      split at h
      · rename_i ob1 v' L1 hfv
        split at h
        · rename_i cs1 hL1
          split at h
          · rename_i hl
            cases h
            exact wk_cell hL hv hL1 hl (hf _ _ _ _ _ hfv hob)
          · cases h
        · cases h
      · cases h
    · cases h
  · cases h
theorem turnP_sound {n0 : Nat} {f : List TO → TV → Option (Option Prop × TV × List TO)} (hf : ∀ L v ob v' L', f L v = some (ob, v', L') → obl ob → Fz L L' v v') {p : Pl} {env env' : List TV} {L L' : List TO} {ob : Option Prop} (h : turnP f p env L = some (ob, env', L')) (hob : obl ob) :
    Wk n0 (erL env) (erOL L) (erL env') (erOL L') := by
  unfold turnP at h
  split at h
  · rename_i t path
    split at h
    · rename_i v hv
      simp only [Option.map_eq_some_iff] at h
      obtain ⟨⟨ob1, v', L1⟩, h1, h2⟩ := h
      cases h2
      exact wk_slot hv (turnIn_sound hf h1 hob)
    · cases h
  · rename_i t i
    split at h
    · rename_i o off ht
      simp only [Option.map_eq_some_iff] at h
      obtain ⟨⟨ob1, L1⟩, h1, h2⟩ := h
      cases h2
      exact turnC_sound hf h1 hob
    · cases h; exact Wk.refl _ _ _
  · rename_i o i
    simp only [Option.map_eq_some_iff] at h
    obtain ⟨⟨ob1, L1⟩, h1, h2⟩ := h
    cases h2
    exact turnC_sound hf h1 hob

theorem annOne_sound {n0 : Nat} {a : Ann} {env env' : List TV} {L L' : List TO} {ob : Option Prop} (h : annOne n0 env L a = some (ob, env', L')) (hob : obl ob) : Wk n0 (erL env) (erOL L) (erL env') (erOL L') := by
  cases a with
  | mask keep => simp only [annOne] at h; cases h; exact wk_le (maskE_le _ _ _)
  | gc =>
    simp only [annOne, Option.map_eq_some_iff] at h
    obtain ⟨⟨e, l⟩, h1, h2⟩ := h
    cases h2; exact gc_sound h1
  | fit p e => exact turnP_sound (fun L v ob v' L' h1 h2 => fitV_sound h1 h2) h hob
  | own p e => exact turnP_sound (fun L v ob v' L' h1 h2 => ownV_sound h1 h2) h hob
  | len p => exact turnP_sound (fun L v ob v' L' h1 h2 => lenV_sound h1 h2) h hob

theorem anns_sound {n0 : Nat} : ∀ {as : List Ann} {env env' : List TV} {L L' : List TO} {ob : Option Prop}, anns n0 as env L = some (ob, env', L') → obl ob → Wk n0 (erL env) (erOL L) (erL env') (erOL L')
  | [], env, env', L, L', ob, h, _ => by simp only [anns] at h; cases h; exact Wk.refl _ _ _
  | a :: r, env, env', L, L', ob, h, hob => by
    simp only [anns] at h
    split at h
    · rename_i ob1 env1 L1 h1
      split at h
      · rename_i ob2 env2 L2 h2
        cases h
        rw [obl_oand] at hob
        exact (annOne_sound h1 hob.1).trans (anns_sound h2 hob.2)
      · cases h
    · cases h

/-! ### Code with what may be forgotten -/

inductive WOp where
  | op (o : POper) (e : Option EL)
  | ann (as : List Ann)
def eraseOps : List WOp → List POper
  | [] => []
  | .op o _ :: r => o :: eraseOps r
  | .ann _ :: r => eraseOps r

inductive WC where
  | skip
  | region (ops : List WOp)
  | dregion (ops : List WOp) (ords : List (List Nat))
  | seq (a b : WC)
  | cond (c : Operand) (a b : WC)
  | block (id : Nat) (c : WC)
  | loop (bk : List Ann) (c : WC)
  | uloop (c : WC)
  | exit (id : Nat)
  | ret
  | ann (as : List Ann) (c : WC)
  | cut (c : WC)

def WC.er : WC → PCode
  | .skip => .skip
  | .region ops => .region (eraseOps ops)
  | .dregion ops ords => .dregion (eraseOps ops) ords
  | .seq a b => .seq a.er b.er
  | .cond c a b => .cond c a.er b.er
  | .block id c => .block id c.er
  | .loop _ c => .loop c.er
  | .uloop c => .loop c.er
  | .exit i => .exit i
  | .ret => .ret
  | .ann _ c => c.er
  | .cut c => c.er

def tput (env : List TV) : Option Nat → TV → List TV
  | some d, v => env.set d v
  | none, _ => env
def tup1 (L : List TO) (n : Nat) (ob : TO) : List TO := if n < L.length then L.set n ob else L ++ [ob]
def tupd (L : List TO) : List (Nat × TO) → List TO
  | [] => L
  | (n, ob) :: r => tupd (tup1 L n ob) r
theorem er_tput (env : List TV) (d : Option Nat) (v : TV) : erL (tput env d v) = putE (erL env) d (er v) := by
  cases d with
  | none => rfl
  | some d => simp [tput, putE, erL_map, List.map_set]
theorem er_tup1 (L : List TO) (n : Nat) (ob : TO) : erOL (tup1 L n ob) = up1 (erOL L) n (erO ob) := by
  unfold tup1 up1
  rw [erOL_len]
  split <;> simp [erOL, List.map_set]
theorem er_tupd : ∀ (u : List (Nat × TO)) (L : List TO), erOL (tupd L u) = upL (erOL L) (u.map fun p => (p.1, erO p.2))
  | [], L => rfl
  | (n, ob) :: r, L => by simp only [tupd, List.map_cons, upL, er_tupd r, er_tup1]

/-! ### What code must do -/

def PostT (L0 : List PObj) (g0 : Gh) (w0 : World) (Q : PExit → List TV → List TO → Prop) (e : Exit) (a : Act) (w : World) : Prop :=
  ∃ pe g env L, e = exitOf pe ∧ St L0 g0 w0 g (erL env) (erOL L) a w ∧ Q pe env L

section
variable (P : Program) (n0 : Nat)

def SV (c : WC) (env : List TV) (L : List TO) (Q : PExit → List TV → List TO → Prop) : Prop :=
  ∀ cc, resolveC P [] cc = some c.er → ∀ L0 g0 w0 g a w, L0.length = n0 → St L0 g0 w0 g (erL env) (erOL L) a w → cc.wp P (PostT L0 g0 w0 Q) a w
def SLoop (c : WC) (env : List TV) (L : List TO) (Q : PExit → List TV → List TO → Prop) : Prop :=
  ∀ cc, resolveC P [] cc = some c.er → ∀ L0 g0 w0 g a w, L0.length = n0 → St L0 g0 w0 g (erL env) (erOL L) a w → LoopAt P cc (PostT L0 g0 w0 Q) a w
def SO (ops : List WOp) (env : List TV) (L : List TO) (K : List TV → List TO → Prop) : Prop :=
  ∀ (all : Array Oper) (l : List Oper), resolveOps P all l = some (eraseOps ops) → ∀ L0 g0 w0 g a w, L0.length = n0 → St L0 g0 w0 g (erL env) (erOL L) a w →
    wpList P all (PostT L0 g0 w0 (fun e env L => e = .normal ∧ K env L)) l a w
def liftK (K : List TV → List TO → Prop) (env : List PV) (L : List PObj) : Prop := ∃ te tl, env = erL te ∧ L = erOL tl ∧ K te tl
def SD (ops : List WOp) (ords : List (List Nat)) (ns : List Nms) (env : List TV) (L : List TO) (K : List TV → List TO → Prop) : Prop :=
  dregK P (eraseOps ops) (erL env) (erOL L) (fun ns' env L => okNms ords (ns ++ ns') = true ∧ liftK K env L)

inductive It where
  | code (c : WC)
  | ops (l : List WOp)
  | dops (l : List WOp) (ords : List (List Nat)) (ns : List Nms)
  | bend (id : Nat)
  | lp (bk : List Ann) (c : WC)
  | ulp (c : WC)

variable (F : List TV → List TO → Prop)

def KQ : List It → PExit → List TV → List TO → Prop
  | [] => fun e env L =>
    match e with
    | .exit _ => False
    | _ => F env L
  | .code c :: s => fun e env L =>
    match e with
    | .normal => SV P n0 c env L (KQ s)
    | e => KQ s e env L
  | .ops l :: s => fun e env L =>
    match e with
    | .normal => SO P n0 l env L (KQ s .normal)
    | e => KQ s e env L
  | .dops l ords ns :: s => fun e env L =>
    match e with
    | .normal => SD P l ords ns env L (KQ s .normal)
    | e => KQ s e env L
  | .bend id :: s => fun e env L =>
    match e with
    | .normal => KQ s .normal env L
    | .exit i => if i = id then KQ s .normal env L else KQ s (.exit i) env L
    | .ret => KQ s .ret env L
  | .lp _ c :: s => fun e env L =>
    match e with
    | .normal => SLoop P n0 c env L (KQ s)
    | e => KQ s e env L
  | .ulp c :: s => fun e env L =>
    match e with
    | .normal => SLoop P n0 c env L (KQ s)
    | e => KQ s e env L
def Run0 (s : List It) (env : List TV) (L : List TO) : Prop := KQ P n0 F s .normal env L
/-- The same, not looked into. -/
structure Run (s : List It) (env : List TV) (L : List TO) : Prop where
  run : KQ P n0 F s .normal env L
end

section
variable {P : Program} {n0 : Nat} {F : List TV → List TO → Prop} {env env' : List TV} {L L' : List TO} {Q : PExit → List TV → List TO → Prop}

theorem PostT.mono {L0 : List PObj} {g0 : Gh} {w0 : World} {Q Q' : PExit → List TV → List TO → Prop} (h : ∀ e env L, Q e env L → Q' e env L) {e : Exit} {a : Act} {w : World} (hp : PostT L0 g0 w0 Q e a w) : PostT L0 g0 w0 Q' e a w := by
  obtain ⟨pe, g, env, L, h1, h2, h3⟩ := hp
  exact ⟨pe, g, env, L, h1, h2, h _ _ _ h3⟩

/-- Scopes do nothing here. -/
theorem peel {pc : PCode} {L0 : List PObj} {g0 : Gh} {w0 : World} {a : Act} {w : World} : ∀ cc : Code, resolveC P [] cc = some pc → (∀ c1, resolveC P [] c1 = some pc → (∀ c2, c1 ≠ .scope c2) → c1.wp P (PostT L0 g0 w0 Q) a w) → cc.wp P (PostT L0 g0 w0 Q) a w := by
  intro cc
  induction cc with
  | scope c ih =>
    intro hr h
    simp only [resolveC] at hr
    refine wp_scope_straight (Code.wp_mono (fun e a w hp => ?_) (ih hr h))
    obtain ⟨pe, g', env', L', rfl, hst', hk⟩ := hp
    cases pe <;> exact ⟨_, g', env', L', rfl, hst', hk⟩
  | _ => intro hr h; exact h _ hr (fun c2 hc => by cases hc)

theorem SV.wk {c : WC} (hw : Wk n0 (erL env) (erOL L) (erL env') (erOL L')) (h : SV P n0 c env' L' Q) : SV P n0 c env L Q := by
  intro cc hr L0 g0 w0 g a w hn hst
  obtain ⟨g', hst'⟩ := hw L0 g0 w0 g a w hn hst
  exact h cc hr L0 g0 w0 g' a w hn hst'
theorem SLoop.wk {c : WC} (hw : Wk n0 (erL env) (erOL L) (erL env') (erOL L')) (h : SLoop P n0 c env' L' Q) : SLoop P n0 c env L Q := by
  intro cc hr L0 g0 w0 g a w hn hst
  obtain ⟨g', hst'⟩ := hw L0 g0 w0 g a w hn hst
  exact h cc hr L0 g0 w0 g' a w hn hst'
theorem SO.wk {l : List WOp} {K : List TV → List TO → Prop} (hw : Wk n0 (erL env) (erOL L) (erL env') (erOL L')) (h : SO P n0 l env' L' K) : SO P n0 l env L K := by
  intro all os hr L0 g0 w0 g a w hn hst
  obtain ⟨g', hst'⟩ := hw L0 g0 w0 g a w hn hst
  exact h all os hr L0 g0 w0 g' a w hn hst'

/-- Code that resolves to one of these is made so. -/
theorem res_map {c : Code} {f : PCode → PCode} {pc : PCode} (h : (resolveC P [] c).map f = some pc) : ∃ x, resolveC P [] c = some x ∧ f x = pc := by
  simpa only [Option.map_eq_some_iff] using h
theorem res_two {a b : Code} {f : PCode → PCode → PCode} {pc : PCode} (h : (match resolveC P [] a, resolveC P [] b with | some x, some y => some (f x y) | _, _ => none) = some pc) :
    ∃ x y, resolveC P [] a = some x ∧ resolveC P [] b = some y ∧ f x y = pc := by
  split at h
  · rename_i x y h1 h2; cases h; exact ⟨x, y, h1, h2, rfl⟩
  · cases h
theorem res_reg {id : Nat} {ops : Array Oper} {d : Bool} {pc : PCode} (h : resolveC P [] (.region id ops d) = some pc) :
    ∃ ps, resolveOps P ops ops.toList = some ps ∧ ((d = false ∧ pc = .region ps) ∨ (d = true ∧ pc = .dregion ps (mkOrds ops.toList) ∧ okEdges ops = true ∧ okOrds ops (mkOrds ops.toList) = true ∧ okSlots ops (mkOrds ops.toList) = true)) := by
  cases d with
  | false =>
    have h : (resolveOps P ops ops.toList).map (fun ps => if ([] : List Nat).contains id then PCode.wregion ps else .region ps) = some pc := h
    simp only [Option.map_eq_some_iff] at h
    obtain ⟨ps, h1, h2⟩ := h
    exact ⟨ps, h1, .inl ⟨rfl, h2.symm⟩⟩
  | true =>
    have h : (if okEdges ops && okOrds ops (mkOrds ops.toList) && okSlots ops (mkOrds ops.toList) then (resolveOps P ops ops.toList).map fun ps => if ([] : List Nat).contains id then PCode.wdregion ps (mkOrds ops.toList) else .dregion ps (mkOrds ops.toList) else none) = some pc := h
    split at h
    · rename_i hck
      simp only [Bool.and_eq_true] at hck
      simp only [Option.map_eq_some_iff] at h
      obtain ⟨ps, h1, h2⟩ := h
      exact ⟨ps, h1, .inr ⟨rfl, h2.symm, hck.1.1, hck.1.2, hck.2⟩⟩
    · cases h
/-- What code resolves to, by its kind. -/
inductive Shape (P : Program) : Code → PCode → Prop
  | skip : Shape P .skip .skip
  | label (l : Nat) : Shape P (.label l) .skip
  | region (id : Nat) (ops : Array Oper) (ps : List POper) : resolveOps P ops ops.toList = some ps → Shape P (.region id ops false) (.region ps)
  | dregion (id : Nat) (ops : Array Oper) (ps : List POper) : resolveOps P ops ops.toList = some ps → okEdges ops = true → okOrds ops (mkOrds ops.toList) = true → okSlots ops (mkOrds ops.toList) = true → Shape P (.region id ops true) (.dregion ps (mkOrds ops.toList))
  | seq (a b : Code) (x y : PCode) : resolveC P [] a = some x → resolveC P [] b = some y → Shape P (.seq a b) (.seq x y)
  | cond (k : Operand) (a b : Code) (x y : PCode) : resolveC P [] a = some x → resolveC P [] b = some y → Shape P (.cond k a b) (.cond k x y)
  | block (id : Nat) (a : Code) (x : PCode) : resolveC P [] a = some x → Shape P (.block id a) (.block id x)
  | loop (a : Code) (x : PCode) : resolveC P [] a = some x → Shape P (.loop a) (.loop x)
  | exit (i : Nat) : Shape P (.exit i) (.exit i)
  | ret : Shape P .ret .ret
theorem shape : ∀ {c : Code} {pc : PCode}, resolveC P [] c = some pc → (∀ c2, c ≠ .scope c2) → Shape P c pc
  | .skip, pc, h, _ => by cases h; exact .skip
  | .label l, pc, h, _ => by cases h; exact .label l
  | .region id ops d, pc, h, _ => by
    obtain ⟨ps, h1, ⟨rfl, rfl⟩ | ⟨rfl, rfl, h2, h3, h4⟩⟩ := res_reg h
    · exact .region _ _ _ h1
    · exact .dregion _ _ _ h1 h2 h3 h4
  | .seq a b, pc, h, _ => by obtain ⟨x, y, h1, h2, rfl⟩ := res_two h; exact .seq _ _ _ _ h1 h2
  | .cond k a b, pc, h, _ => by obtain ⟨x, y, h1, h2, rfl⟩ := res_two (f := .cond k) h; exact .cond _ _ _ _ _ h1 h2
  | .block id a, pc, h, _ => by obtain ⟨x, h1, rfl⟩ := res_map h; exact .block _ _ _ h1
  | .loop a, pc, h, _ => by obtain ⟨x, h1, rfl⟩ := res_map h; exact .loop _ _ h1
  | .exit i, pc, h, _ => by cases h; exact .exit i
  | .ret, pc, h, _ => by cases h; exact .ret
  | .scope c, _, _, hns => absurd rfl (hns c)
  | .rangeFunc .., _, h, _ => by cases h
  | .goto _, _, h, _ => by cases h
  | .refuse _, _, h, _ => by cases h

theorem SV.skip (h : Q .normal env L) : SV P n0 .skip env L Q := by
  intro cc hr L0 g0 w0 g a w hn hst
  refine peel cc hr (fun c1 h1 hns => ?_)
  have hs := shape h1 hns
  simp only [WC.er] at hs
  cases hs with
  | skip => exact wp_skip ⟨.normal, g, env, L, rfl, hst, h⟩
  | label l => exact wp_label ⟨.normal, g, env, L, rfl, hst, h⟩

theorem SV.region {ops : List WOp} (h : SO P n0 ops env L (Q .normal)) : SV P n0 (.region ops) env L Q := by
  intro cc hr L0 g0 w0 g a w hn hst
  refine peel cc hr (fun c1 h1 hns => ?_)
  have hs := shape h1 hns
  simp only [WC.er] at hs
  generalize hps : eraseOps ops = ps at hs
  cases hs with
  | region id os _ hos =>
  subst hps
  refine Code.wp_mono (fun e a w hp => PostT.mono (fun e env L he => by obtain ⟨rfl, he⟩ := he; exact he) hp) (wp_region_list (h os os.toList hos L0 g0 w0 g a w hn hst))

theorem SV.dregion (hm : P.follows .mixedOrders = true) {ops : List WOp} {ords : List (List Nat)} (h : SD P ops ords [] env L (Q .normal)) : SV P n0 (.dregion ops ords) env L Q := by
  intro cc hr L0 g0 w0 g a w hn hst
  refine peel cc hr (fun c1 h1 hns => ?_)
  have hs := shape h1 hns
  simp only [WC.er] at hs
  generalize hps : eraseOps ops = ps at hs
  cases hs with
  | dregion id os _ hos o1 o2 o3 =>
  subst hps
  refine dregK_sound hm hos o1 o2 o3 (k := liftK (Q .normal)) ?_ hst (fun env' L' g' a' w' hst' hk => ?_)
  · simpa [SD] using h
  · obtain ⟨te, tl, rfl, rfl, hk⟩ := hk
    exact ⟨.normal, g', te, tl, rfl, hst', hk⟩

theorem SV.seq {x y : WC} (h : SV P n0 x env L (fun e env L => match e with | .normal => SV P n0 y env L Q | e => Q e env L)) : SV P n0 (.seq x y) env L Q := by
  intro cc hr L0 g0 w0 g a w hn hst
  refine peel cc hr (fun c1 h1 hns => ?_)
  have hs := shape h1 hns
  simp only [WC.er] at hs
  cases hs with
  | seq ca cb _ _ ha hb =>
  refine wp_seq (Code.wp_mono (fun e a w hp => ?_) (h ca ha L0 g0 w0 g a w hn hst))
  obtain ⟨pe, g', env', L', rfl, hst', hk⟩ := hp
  cases pe with
  | normal => exact hk cb hb L0 g0 w0 g' a w hn hst'
  | exit i => exact ⟨.exit i, g', env', L', rfl, hst', hk⟩
  | ret => exact ⟨.ret, g', env', L', rfl, hst', hk⟩

def Br : Bool → Prop → Prop → Prop
  | true, A, _ => A
  | false, _, B => B
theorem Br_true {A B : Prop} : Br true A B = A := rfl
theorem Br_false {A B : Prop} : Br false A B = B := rfl
theorem Br_iff {b : Bool} {A B : Prop} : Br b A B ↔ (b = true → A) ∧ (b = false → B) := by cases b <;> simp [Br]
theorem Br_intro {b : Bool} {A B : Prop} (h1 : b = true → A) (h2 : b = false → B) : Br b A B := Br_iff.2 ⟨h1, h2⟩

theorem SV.cond {c : Operand} {x y : WC} {b : Bool} (hc : tev env c = .bool b) (h1 : b = true → SV P n0 x env L Q) (h2 : b = false → SV P n0 y env L Q) : SV P n0 (.cond c x y) env L Q := by
  intro cc hr L0 g0 w0 g a w hn hst
  refine peel cc hr (fun c1 hc1 hns => ?_)
  have hs := shape hc1 hns
  simp only [WC.er] at hs
  cases hs with
  | cond _ ca cb _ _ ha hb =>
  have hev := hst.ra.eval c
  rw [er_tev, hc] at hev
  have hbv := rep_bool hev
  cases b with
  | true => exact wp_cond_true hbv (h1 rfl ca ha L0 g0 w0 g a w hn hst)
  | false => exact wp_cond_false hbv (h2 rfl cb hb L0 g0 w0 g a w hn hst)

theorem SV.block {id : Nat} {c : WC} (h : SV P n0 c env L (fun e env L => match e with | .normal => Q .normal env L | .exit i => if i = id then Q .normal env L else Q (.exit i) env L | .ret => Q .ret env L)) : SV P n0 (.block id c) env L Q := by
  intro cc hr L0 g0 w0 g a w hn hst
  refine peel cc hr (fun c1 h1 hns => ?_)
  have hs := shape h1 hns
  simp only [WC.er] at hs
  cases hs with
  | block _ ca _ ha =>
  refine wp_block (Code.wp_mono (fun e a w hp => ?_) (h ca ha L0 g0 w0 g a w hn hst))
  obtain ⟨pe, g', env', L', rfl, hst', hk⟩ := hp
  cases pe with
  | normal => exact ⟨.normal, g', env', L', rfl, hst', hk⟩
  | exit i =>
    simp only [exitOf, Exit.inBlock]
    simp only at hk
    by_cases hi : i = id
    · rw [if_pos hi] at hk ⊢; exact ⟨.normal, g', env', L', rfl, hst', hk⟩
    · rw [if_neg hi] at hk ⊢; exact ⟨.exit i, g', env', L', rfl, hst', hk⟩
  | ret => exact ⟨.ret, g', env', L', rfl, hst', hk⟩

theorem SV.loop {bk : List Ann} {c : WC} (h : SLoop P n0 c env L Q) : SV P n0 (.loop bk c) env L Q := by
  intro cc hr L0 g0 w0 g a w hn hst
  refine peel cc hr (fun c1 h1 hns => ?_)
  have hs := shape h1 hns
  simp only [WC.er] at hs
  cases hs with
  | loop ca _ ha =>
  exact LoopAt.wp (h ca ha L0 g0 w0 g a w hn hst)

theorem SV.uloop {c : WC} (h : SLoop P n0 c env L Q) : SV P n0 (.uloop c) env L Q := by
  intro cc hr L0 g0 w0 g a w hn hst
  refine peel cc hr (fun c1 h1 hns => ?_)
  have hs := shape h1 hns
  simp only [WC.er] at hs
  cases hs with
  | loop ca _ ha =>
  exact LoopAt.wp (h ca ha L0 g0 w0 g a w hn hst)

theorem SLoop.round {c : WC} (h : SV P n0 c env L (fun e env L => match e with | .normal => SLoop P n0 c env L Q | e => Q e env L)) : SLoop P n0 c env L Q := by
  intro cc hr L0 g0 w0 g a w hn hst
  refine LoopAt.round (Code.wp_mono (fun e a w hp => ?_) (h cc hr L0 g0 w0 g a w hn hst))
  obtain ⟨pe, g', env', L', rfl, hst', hk⟩ := hp
  cases pe with
  | normal => exact hk cc hr L0 g0 w0 g' a w hn hst'
  | exit i => exact ⟨.exit i, g', env', L', rfl, hst', hk⟩
  | ret => exact ⟨.ret, g', env', L', rfl, hst', hk⟩

theorem SV.exit {i : Nat} (h : Q (.exit i) env L) : SV P n0 (.exit i) env L Q := by
  intro cc hr L0 g0 w0 g a w hn hst
  refine peel cc hr (fun c1 h1 hns => ?_)
  have hs := shape h1 hns
  simp only [WC.er] at hs
  cases hs with
  | exit =>
  exact wp_exit ⟨.exit i, g, env, L, rfl, hst, h⟩
theorem SV.ret (h : Q .ret env L) : SV P n0 .ret env L Q := by
  intro cc hr L0 g0 w0 g a w hn hst
  refine peel cc hr (fun c1 h1 hns => ?_)
  have hs := shape h1 hns
  simp only [WC.er] at hs
  cases hs with
  | ret =>
  exact wp_ret ⟨.ret, g, env, L, rfl, hst, h⟩
theorem SV.ann {as : List Ann} {c : WC} (h : SV P n0 c env L Q) : SV P n0 (.ann as c) env L Q := h
theorem SV.cut {c : WC} (h : SV P n0 c env L Q) : SV P n0 (.cut c) env L Q := h

end
end Go.Fw
