import Derived.Test.YtpfdldcejeilnaaFxG
set_option linter.unusedVariables false
set_option linter.unusedSimpArgs false
namespace Go.Fw
open Go

/-! ### How a function ends -/

def tres (env : List TV) (L : List TO) : List POp → Option (Option Prop × List TV)
  | [] => some (none, [])
  | p :: r =>
    match tp env L none p, tres env L r with
    | some (ob, out), some (ob', vs) => some (oand ob ob', out.pv :: vs)
    | _, _ => none
def tresPV : List TV → TV
  | [v] => v
  | vs => .tup vs

theorem tres_sound {env : List TV} {L : List TO} : ∀ {ts : List POp} {ob : Option Prop} {vs : List TV}, tres env L ts = some (ob, vs) → obl ob → ∃ pvs, LeL pvs (erL vs) ∧ ∀ k : List PV → Prop, k pvs → resK (erL env) (erOL L) ts k
  | [], ob, vs, h, _ => by simp only [tres] at h; cases h; exact ⟨[], trivial, fun k hk => hk⟩
  | p :: r, ob, vs, h, hob => by
    simp only [tres] at h
    split at h
    · rename_i o1 out o2 ws h1 h2
      cases h
      rw [obl_oand] at hob
      obtain ⟨ob', out0, e1, e2, e3⟩ := tp_sound h1 hob.1
      obtain ⟨pvs, l1, l2⟩ := tres_sound h2 hob.2
      refine ⟨out0.pv :: pvs, ⟨e3.pv, l1⟩, fun k hk => ?_⟩
      simp only [resK, e1]
      exact ⟨e2, l2 (fun vs => k (out0.pv :: vs)) hk⟩
    · cases h

theorem le_tup {ps qs : List PV} (h : LeL ps qs) : Le (.tup ps) (.tup qs) := fun g v hr => by
  obtain ⟨hl, hg⟩ := h.get
  obtain ⟨vs, rfl, h1, h2⟩ := rep_tup hr
  refine .tup vs _ (by rw [h1, hl]) (fun i u c hu hc => ?_)
  obtain ⟨p, hp, hle⟩ := hg i c hc
  exact hle g u (h2 i u p hu hp)
theorem le_res {ps : List PV} {vs : List TV} (h : LeL ps (erL vs)) : Le (resPV ps) (er (tresPV vs)) := by
  rcases vs with _ | ⟨v, _ | ⟨u, r⟩⟩ <;> rcases ps with _ | ⟨p, _ | ⟨q, s⟩⟩ <;> try exact h.elim
  · exact le_tup trivial
  · exact h.1
  · exact h.2.elim
  · exact h.2.elim
  · exact le_tup h

def FinS (P : Program) (n0 : Nat) (fn : Func) (R : TV → List TO → Prop) (env : List TV) (L : List TO) : Prop :=
  ∀ L0 g0 w0 g a w, L0.length = n0 → St L0 g0 w0 g (erL env) (erOL L) a w →
    ∃ v g' tv tL env' a', (results fn a.tmps).run P w = .ok v w ∧ Rep g' v (er tv) ∧ St L0 g0 w0 g' env' (erOL tL) a' w ∧ R tv tL
def finA (n0 : Nat) (ts : List POp) (as : List Ann) (R : TV → List TO → Prop) (env : List TV) (L : List TO) : Prop :=
  match tres env L ts with
  | some (ob, vs) =>
    match anns n0 as [tresPV vs] L with
    | some (ob', [v], L') => obK (oand ob ob') (R v L')
    | _ => False
  | none => False

theorem finA_sound {P : Program} {n0 : Nat} {fn : Func} {ts : List POp} {as : List Ann} {R : TV → List TO → Prop} (hr : resolveR P fn.results.toList = some ts) (env : List TV) (L : List TO) (h : finA n0 ts as R env L) : FinS P n0 fn R env L := by
  intro L0 g0 w0 g a w hn hst
  unfold finA at h
  split at h
  · rename_i ob vs hv
    split at h
    · rename_i ob' v L' ha
      obtain ⟨h1, h2⟩ := obK_spec h
      rw [obl_oand] at h1
      obtain ⟨pvs, l1, l2⟩ := tres_sound hv h1.1
      obtain ⟨u, qs, r1, r2, r3⟩ := results_all (k := fun x => x = pvs) hst.ra hst.rh hr (l2 _ rfl)
      subst r3
      have hrep := le_res l1 _ _ r2
      have hst1 : St L0 g0 w0 g (erL [tresPV vs]) (erOL L) { tmps := #[u], defers := [] } w := { hst with
        ra := ⟨rfl, fun t p hp => by
          cases t with
          | zero => simp [erL] at hp; subst hp; exact hrep
          | succ t => simp [erL] at hp, rfl⟩ }
      obtain ⟨g', hst2⟩ := anns_sound ha h1.2 L0 g0 w0 g _ w hn hst1
      exact ⟨u, g', v, L', _, _, r1, hst2.ra.rep 0 _ rfl, hst2, h2⟩
    · exact h.elim
  · exact h.elim

/-- A function's contract. -/
def ACT (P : Program) (f : FuncId) (A0 : List TV) (L0 : List TO) (R : TV → List TO → Prop) : Prop :=
  AC P f (erL A0) (erOL L0) (fun pv L => ∃ tv tL, pv = er tv ∧ L = erOL tL ∧ R tv tL)

theorem act_of_run {P : Program} {f : FuncId} {fn : Func} {c : Code} {wc : WC} {A0 : List TV} {L0 : List TO} {R : TV → List TO → Prop} (hf : P.funcs[f]? = some fn) (hb : fn.body = some c) (hn : (fn.name != "runtime.NumGoroutine") = true)
    (hc : resolveC P [] c = some wc.er) {n0 : Nat} (h0 : n0 = L0.length) (h : Run P n0 (FinS P n0 fn R) [.code wc] (A0 ++ List.replicate (fn.ntmps - A0.length) .und) L0) : ACT P f A0 L0 R := by
  subst h0
  refine ⟨by simp [enters, hf, hn, hb], fun g w vs hl hr hh hnew => ?_⟩
  rw [erL_len] at hl
  refine calls_of_wp hf hb ?_
  have hrep : ∀ k, erL (List.replicate k TV.und) = List.replicate k PV.und := fun k => by rw [erL_map, List.map_replicate]; rfl
  have hst : St (erOL L0) g w g (erL (A0 ++ List.replicate (fn.ntmps - A0.length) .und)) (erOL L0) { tmps := vs.toArray ++ Array.replicate (fn.ntmps - vs.toArray.size) undef, defers := [] } w := {
    ra := {
      size := by simp [hl, erL_len]
      rep := fun t p hp => by
        rw [erL_append] at hp
        by_cases ht : t < A0.length
        · rw [List.getElem?_append_left (by rw [erL_len]; exact ht)] at hp
          have hv : t < vs.length := by omega
          have := hr t _ p (List.getElem?_eq_getElem hv) hp
          simpa [Array.getD, hv, Array.getElem_append, Nat.lt_add_right] using this
        · rw [List.getElem?_append_right (by rw [erL_len]; omega), hrep] at hp
          have hlt := (List.getElem?_eq_some_iff.1 hp).1
          simp [erL_len] at hlt
          have hp' : p = .und := by
            have := (List.getElem?_eq_some_iff.1 hp).2
            simpa using this.symm
          subst hp'
          have hv : ¬ t < vs.length := by omega
          have h2 : t < vs.length + (fn.ntmps - vs.length) := by omega
          have : (vs.toArray ++ Array.replicate (fn.ntmps - vs.toArray.size) undef).getD t undef = undef := by
            simp [Array.getD, Array.getElem_append, hv]
          rw [this]; exact .und
      defers := rfl }
    rh := hh
    new := fun n hn => hnew n hn
    os := rfl
    tape := rfl
    output := rfl
    size := Nat.le_refl _
    block := fun _ _ _ => rfl
    frle := fun _ _ _ h => h
    len := Nat.le_refl _
    at0 := fun n _ => ⟨rfl, fun _ _ => rfl⟩
    frn := fun b i v h => .inl h
    own := fun n hl b hb => .inr ⟨n, hl, hb⟩ }
  refine Code.wp_mono (fun e a w' hp => ?_) (h.run c hc (erOL L0) g w g _ w (erOL_len L0) hst)
  obtain ⟨pe, g', env', L', rfl, hst', hk⟩ := hp
  have fin : FinS P L0.length fn R env' L' → a.defers = [] ∧ ∃ v, (results fn a.tmps).run P w' = .ok v w' ∧ (∃ u g' pv L env a, Ending.returned v = .returned u ∧ Rep g' u pv ∧ St (erOL L0) g w g' env L a w' ∧ ∃ tv tL, pv = er tv ∧ L = erOL tL ∧ R tv tL) := by
    intro hF
    obtain ⟨v, g2, tv, tL, env2, a2, h1, h2, h3, h4⟩ := hF (erOL L0) g w g' a w' (erOL_len L0) hst'
    exact ⟨hst'.ra.defers, v, h1, v, g2, er tv, erOL tL, env2, a2, rfl, h2, h3, tv, tL, rfl, rfl, h4⟩
  cases pe with
  | normal => exact fin hk
  | ret => exact fin hk
  | exit i => exact hk.elim

/-- Results as they are told. -/
def RetR {ρ : Type} (encR : ρ → TV) (objR : ρ → List TO) (Q : ρ → Prop) (tv : TV) (tL : List TO) : Prop := ∃ r, tv = encR r ∧ tL = objR r ∧ Q r
theorem RetR.intro {ρ : Type} {encR : ρ → TV} {objR : ρ → List TO} {Q : ρ → Prop} {r : ρ} (h : Q r) : RetR encR objR Q (encR r) (objR r) := ⟨r, rfl, rfl, h⟩

theorem act_det {P : Program} {f : FuncId} {A0 : List TV} {L0 : List TO} {ρ : Type} {encR : ρ → TV} {objR : ρ → List TO} {r : ρ} (h : ACT P f A0 L0 (RetR encR objR (fun x => x = r))) : ACT P f A0 L0 (fun tv tL => tv = encR r ∧ tL = objR r) :=
  AC.mono h (fun pv L ⟨tv, tL, h1, h2, r', e1, e2, e3⟩ => by subst e3; exact ⟨tv, tL, h1, h2, e1, e2⟩)
def rdI (xs : List Int) (n : Nat) : Int := xs.getD n 0
def rdB (xs : List Bool) (n : Nat) : Bool := xs.getD n false
theorem kc {a b : Prop} (e : a = b) (h : b) : a := e ▸ h

/-! ### Calls -/

mutual
theorem er_tren (r : Nat → Nat) : ∀ v, er (tren r v) = ren r (er v)
  | .int _ _ | .bool _ | .str _ | .nilp | .nilf | .sl _ _ | .fp _ _ _ | .nilsl | .zsl | .und | .dead | .ptr _ _ | .ep _ _ _ _ | .ls _ _ _ _ _ | .vf _ _ _ _ | .vs _ _ _ _ _ | .map _ => rfl
  | .agg cs => by simp only [tren, er, ren, er_trenL r cs]
  | .tup cs => by simp only [tren, er, ren, er_trenL r cs]
  | .fn f a b => by simp only [tren, er, ren, er_trenL r a, er_trenL r b]
theorem er_trenL (r : Nat → Nat) : ∀ vs, erL (trenL r vs) = renL r (erL vs)
  | [] => rfl
  | v :: vs => by simp only [trenL, erL, renL, er_tren r v, er_trenL r vs]
end
theorem er_trenO (r : Nat → Nat) (x : TO) : erO (trenO r x) = renO r (erO x) := by
  cases x with
  | arr cs => simp only [trenO, erO, renO, er_trenL]
  | vec e xs => simp only [trenO, erO, renO, ren_tc]
  | dead => rfl
mutual
theorem bnd_refs {k : Nat} : ∀ v : TV, ltB k (refs v) = true → bnd_ k (er v) = true
  | .int _ _, _ | .bool _, _ | .str _, _ | .nilp, _ | .nilf, _ | .sl _ _, _ | .fp _ _ _, _ | .nilsl, _ | .zsl, _ | .und, _ | .dead, _ => rfl
  | .agg cs, h => bndL_refs cs h
  | .tup cs, h => bndL_refs cs h
  | .fn f a b, h => by
    have ha : ltB k (refsL a) = true ∧ ltB k (refsL b) = true := ltB_append (by simpa only [refs] using h)
    simp only [er, bnd_, bndL_refs a ha.1, bndL_refs b ha.2, Bool.and_self]
  | .ptr o _, h | .ep o _ _ _, h | .ls o _ _ _ _, h | .vf o _ _ _, h | .vs o _ _ _ _, h | .map o, h => by
    have := ltB_spec h o (by simp [refs])
    simp [er, bnd_, this]
theorem bndL_refs {k : Nat} : ∀ vs : List TV, ltB k (refsL vs) = true → bndL k (erL vs) = true
  | [], _ => rfl
  | v :: vs, h => by
    have := ltB_append (by simpa only [refsL] using h)
    simp only [erL, bndL, bnd_refs v this.1, bndL_refs vs this.2, Bool.and_self]
theorem ltB_append {k : Nat} : ∀ {a b : List Nat}, ltB k (a ++ b) = true → ltB k a = true ∧ ltB k b = true
  | [], b, h => ⟨rfl, h⟩
  | x :: a, b, h => by
    simp only [List.cons_append, ltB, Bool.and_eq_true] at h ⊢
    obtain ⟨h1, h2⟩ := ltB_append h.2
    exact ⟨⟨h.1, h1⟩, h2⟩
end

/-- What is handed over, told as the callee tells it. -/
def lax : TV → TV → TV
  | .sl e _, .nilsl => .sl e []
  | .sl e _, .zsl => .sl e []
  | .agg fs, .agg as => .agg (laxL fs as)
  | _, a => a
  where laxL : List TV → List TV → List TV
  | f :: fs, a :: as => lax f a :: laxL fs as
  | _, as => as
theorem le_agg {ps qs : List PV} (h : LeL ps qs) : Le (.agg ps) (.agg qs) := fun g v hr => by
  obtain ⟨hl, hg⟩ := h.get
  obtain ⟨vs, rfl, h1, h2, h3⟩ := rep_agg hr
  refine .agg vs _ (by rw [h1, hl]) h2 (fun i u c hu hc => ?_)
  obtain ⟨p, hp, hle⟩ := hg i c hc
  exact hle g u (h3 i u p hu hp)
mutual
theorem lax_le : ∀ (f a : TV), Le (er a) (er (lax f a)) := by
  intro f a
  unfold lax
  split
  · exact Le.nilsl
  · exact Le.zsl
  · rename_i fs as; exact le_agg (laxL_le fs as)
  · exact Le.refl _
theorem laxL_le : ∀ (fs as : List TV), LeL (erL as) (erL (lax.laxL fs as))
  | f :: fs, a :: as => ⟨lax_le f a, laxL_le fs as⟩
  | [], as => LeL.refl _
  | _ :: _, [] => trivial
end

def lentL (ks : List Nat) (L : List TO) : List TO := ks.map fun k => (L[k]?).getD .dead
def trenOL (r : Nat → Nat) (L : List TO) : List TO := L.map (trenO r)
def liveT : TO → Bool
  | .dead => false
  | _ => true
def okLend (ks : List Nat) (n : Nat) (A0 : List TV) (L0 : List TO) : Bool :=
  Nat.beq ks.length L0.length && nodupB ks && ltB n ks && ltB ks.length (refsL A0) && ltB ks.length (L0.flatMap refsO) && L0.all liveT
def tlend (r : Nat → Nat) : List TO → Nat → List (Nat × TO)
  | [], _ => []
  | o :: rest, i => (r i, trenO r o) :: tlend r rest (i + 1)
theorem er_tlend (r : Nat → Nat) : ∀ (l : List TO) (i : Nat), (tlend r l i).map (fun p => (p.1, erO p.2)) = lendUpd r (erOL l) i
  | [], i => rfl
  | o :: rest, i => by
    simp only [tlend, List.map_cons, er_trenO, er_tlend r rest (i + 1), erOL, lendUpd]

theorem lent_of {ks : List Nat} {L : List TO} : ∀ {L0 : List TO} {i : Nat}, (∀ j x, L0[j]? = some x → ∃ y, L[nm ks (i + j)]? = some y ∧ y = trenO (nm ks) x) → (∀ x ∈ L0, liveT x = true ∧ ltB ks.length (refsO x) = true) → Lent ks (erOL L) (erOL L0) i
  | [], i, _, _ => trivial
  | x :: r, i, h, hb => by
    have hx := hb x (by simp)
    obtain ⟨y, hy, he⟩ := h 0 x rfl
    rw [Nat.add_zero] at hy
    refine ⟨?_, lent_of (fun j z hz => by
      have := h (j + 1) z (by simpa using hz)
      rw [show i + 1 + j = i + (j + 1) from by omega]; exact this) (fun z hz => hb z (by simp [hz]))⟩
    cases x with
    | dead => simp [liveT] at hx
    | arr cs =>
      simp only [erO]
      refine ⟨by rw [erOL_get, hy, he, Option.map_some, er_trenO]; rfl, bndL_refs cs hx.2⟩
    | vec e xs =>
      simp only [erO]
      refine ⟨by rw [erOL_get, hy, he, Option.map_some, er_trenO]; rfl, bnd_tc _ _ _⟩

/-- What a call leaves. -/
def lendOut (ks : List Nat) (n : Nat) (r : TV) (Lc : List TO) : TOut := { pv := tren (back ks n) r, upd := tlend (back ks n) Lc 0, rd := ks }

theorem call_typed {P : Program} {f : FuncId} {A0 acts : List TV} {L L0 Lc : List TO} {r : TV} (ks : List Nat) (h : ACT P f A0 L0 (fun tv tL => tv = r ∧ tL = Lc)) (hok : okLend ks L.length A0 L0 = true) (hobj : lentL ks L = trenOL (nm ks) L0) (hargs : lax.laxL (trenL (nm ks) A0) acts = trenL (nm ks) A0) :
    CallD P f (erL acts) (erOL L) (lendOut ks L.length r Lc).er := by
  unfold okLend at hok
  simp only [Bool.and_eq_true] at hok
  obtain ⟨⟨⟨⟨⟨o1, o2⟩, o3⟩, o4⟩, o5⟩, o6⟩ := hok
  have o1 := Nat.eq_of_beq_eq_true o1
  have hbnd : ∀ x ∈ L0, liveT x = true ∧ ltB ks.length (refsO x) = true := fun x hx => by
    refine ⟨List.all_eq_true.1 o6 x hx, ?_⟩
    have key : ∀ l : List TO, ltB ks.length (l.flatMap refsO) = true → ∀ x ∈ l, ltB ks.length (refsO x) = true := by
      intro l
      induction l with
      | nil => intro _ x hx; cases hx
      | cons y l ih =>
        intro h x hx
        simp only [List.flatMap_cons] at h
        obtain ⟨h1, h2⟩ := ltB_append h
        rcases List.mem_cons.1 hx with rfl | hx
        · exact h1
        · exact ih h2 x hx
    exact key L0 o5 x hx
  have hlent : Lent ks (erOL L) (erOL L0) 0 := lent_of (fun j x hx => by
    have hj : j < ks.length := by rw [o1]; exact (List.getElem?_eq_some_iff.1 hx).1
    have h1 := congrArg (·[j]?) hobj
    simp only [lentL, trenOL, List.getElem?_map, hx, List.getElem?_eq_getElem hj, Option.map_some, Option.some.injEq] at h1
    have hk : ks[j] < L.length := ltB_spec o3 _ (List.getElem_mem hj)
    refine ⟨L[ks[j]], ?_, ?_⟩
    · simp [nm, hj, hk]
    · rw [← h1]; simp [hk]) hbnd
  have hmono : AC P f (erL A0) (erOL L0) (fun pv L' => pv = er r ∧ L' = erOL Lc) := AC.mono h (fun pv L' ⟨tv, tL, h1, h2, h3, h4⟩ => by subst h3; subst h4; exact ⟨h1, h2⟩)
  have hle : LeL (erL acts) (renL (nm ks) (erL A0)) := by
    rw [← er_trenL, ← hargs]; exact laxL_le _ _
  have := callD_lend (L := erOL L) ks hmono (by rw [erOL_len]; exact o1) (nodupB_spec o2) (fun k hk => by rw [erOL_len]; exact ltB_spec o3 k hk) hlent hle (bndL_refs A0 o4)
  rw [erOL_len] at this
  simpa only [lendOut, TOut.er, er_tren, er_tlend] using this

section
variable {P : Program} {n0 : Nat} {F : List TV → List TO → Prop} {env : List TV} {L : List TO}

theorem opO_callf {d : Option Nat} {f : FuncId} {args : List Operand} {g : Option (Nat × Bool)} {tout : TOut} {k : Out → Prop} (h : CallD P f (erL (args.map (tev env))) (erOL L) tout.er) (hk : k tout.er) : opO P ⟨d, .callf f args, g⟩ (erL env) (erOL L) k := by
  refine ⟨tout.er, ?_, hk⟩
  have : args.map (ev (erL env)) = erL (args.map (tev env)) := by
    rw [erL_map (args.map (tev env)), List.map_map]; apply List.map_congr_left; intro x _; exact er_tev env x
  rw [this]; exact h
theorem opO_callv {d : Option Nat} {x : Operand} {f : FuncId} {first caps : List TV} {args : List Operand} {g : Option (Nat × Bool)} {tout : TOut} {k : Out → Prop} (hx : tev env x = .fn f first caps) (h : CallD P f (erL (first ++ args.map (tev env) ++ caps)) (erOL L) tout.er) (hk : k tout.er) : opO P ⟨d, .callv x args, g⟩ (erL env) (erOL L) k := by
  have hx' : ev (erL env) x = .fn f (erL first) (erL caps) := by rw [er_tev, hx]; rfl
  have : args.map (ev (erL env)) = erL (args.map (tev env)) := by
    rw [erL_map (args.map (tev env)), List.map_map]; apply List.map_congr_left; intro x _; exact er_tev env x
  unfold opO
  simp only [hx']
  refine ⟨tout.er, ?_, hk⟩
  rw [this, ← erL_append, ← erL_append]; exact h

theorem run_callf {d : Option Nat} {f : FuncId} {args : List Operand} {e : Option EL} {r : List WOp} {s : List It} {tout : TOut} (h : CallD P f (erL (args.map (tev env))) (erOL L) tout.er) (hk : Run P n0 F (.ops r :: s) (tput env d tout.pv) (tupd L tout.upd)) :
    Run P n0 F (.ops (.op ⟨d, .callf f args, none⟩ e :: r) :: s) env L := ⟨SO.step (.inl rfl) (opO_callf h ⟨tout, rfl, hk.run⟩)⟩
theorem run_callv {d : Option Nat} {x : Operand} {f : FuncId} {first caps : List TV} {args : List Operand} {e : Option EL} {r : List WOp} {s : List It} {tout : TOut} (hx : tev env x = .fn f first caps) (h : CallD P f (erL (first ++ args.map (tev env) ++ caps)) (erOL L) tout.er) (hk : Run P n0 F (.ops r :: s) (tput env d tout.pv) (tupd L tout.upd)) :
    Run P n0 F (.ops (.op ⟨d, .callv x args, none⟩ e :: r) :: s) env L := ⟨SO.step (.inl rfl) (opO_callv hx h ⟨tout, rfl, hk.run⟩)⟩
theorem run_dcallf {d : Option Nat} {f : FuncId} {args : List Operand} {e : Option EL} {r : List WOp} {ords : List (List Nat)} {ns : List Nms} {s : List It} {tout : TOut} (h : CallD P f (erL (args.map (tev env))) (erOL L) tout.er) (hk : Run P n0 F (.dops r ords (ns ++ [tout.nms]) :: s) (tput env d tout.pv) (tupd L tout.upd)) :
    Run P n0 F (.dops (.op ⟨d, .callf f args, none⟩ e :: r) ords ns :: s) env L :=
  ⟨show SD P (.op ⟨d, .callf f args, none⟩ e :: r) ords ns env L (KQ P n0 F s .normal) from SD.step (o := ⟨d, .callf f args, none⟩) (e := e) (.inl rfl) (opO_callf h ⟨tout, rfl, hk.run⟩)⟩
theorem run_dcallv {d : Option Nat} {x : Operand} {f : FuncId} {first caps : List TV} {args : List Operand} {e : Option EL} {r : List WOp} {ords : List (List Nat)} {ns : List Nms} {s : List It} {tout : TOut} (hx : tev env x = .fn f first caps) (h : CallD P f (erL (first ++ args.map (tev env) ++ caps)) (erOL L) tout.er) (hk : Run P n0 F (.dops r ords (ns ++ [tout.nms]) :: s) (tput env d tout.pv) (tupd L tout.upd)) :
    Run P n0 F (.dops (.op ⟨d, .callv x args, none⟩ e :: r) ords ns :: s) env L :=
  ⟨show SD P (.op ⟨d, .callv x args, none⟩ e :: r) ords ns env L (KQ P n0 F s .normal) from SD.step (o := ⟨d, .callv x args, none⟩) (e := e) (.inl rfl) (opO_callv hx h ⟨tout, rfl, hk.run⟩)⟩
end

/-! A call for which an array is frozen. -/
mutual
def frzV (o : Nat) (e : EL) (xs : List e.T) : TV → Option Prop × TV
  | .vf o' e' n t => if o' = o then (if EL.beq e' e = true then (some (n = xs.length), .sl e xs) else (some False, .dead)) else (none, .vf o' e' n t)
  | .agg cs => ((frzL o e xs cs).1, .agg (frzL o e xs cs).2)
  | v => (none, v)
def frzL (o : Nat) (e : EL) (xs : List e.T) : List TV → Option Prop × List TV
  | [] => (none, [])
  | v :: vs => (oand (frzV o e xs v).1 (frzL o e xs vs).1, (frzV o e xs v).2 :: (frzL o e xs vs).2)
end
mutual
theorem frzV_le {o : Nat} {e : EL} {xs : List e.T} : ∀ v : TV, obl (frzV o e xs v).1 → LeO o (tl e xs).flatten (er v) (er (frzV o e xs v).2)
  | .vf o' e' n t, h => by
    simp only [frzV] at h ⊢
    split at h
    · rename_i ho
      subst ho
      split at h
      · rename_i hb
        have hb' := EL.beq_eq hb; subst hb'
        have h : n = xs.length := h
        subst h
        rw [if_pos rfl, if_pos hb]
        have := LeO.vec (o := o') (e := e') (xs := xs) (s := 0) (n := xs.length) (t := t) (by omega)
        rw [sub_all, Nat.zero_mul] at this
        exact this
      · exact h.elim
    · rename_i ho; rw [if_neg ho]; exact LeO.refl _
  | .agg cs, h => by
    simp only [frzV] at h ⊢
    exact LeO.agg (frzL_le cs h)
  | .int _ _, _ | .bool _, _ | .str _, _ | .nilp, _ | .nilf, _ | .sl _ _, _ | .tup _, _ | .ptr _ _, _ | .fp _ _ _, _ | .ep _ _ _ _, _ | .ls _ _ _ _ _, _ | .vs _ _ _ _ _, _ | .nilsl, _ | .zsl, _ | .fn _ _ _, _ | .map _, _ | .und, _ | .dead, _ => LeO.refl _
theorem frzL_le {o : Nat} {e : EL} {xs : List e.T} : ∀ vs : List TV, obl (frzL o e xs vs).1 → LeOL o (tl e xs).flatten (erL vs) (erL (frzL o e xs vs).2)
  | [], _ => trivial
  | v :: vs, h => by
    simp only [frzL, obl_oand] at h
    exact ⟨frzV_le v h.1, frzL_le vs h.2⟩
end
def noName (o : Nat) : List (Nat × TO) → Bool
  | [] => true
  | (n, _) :: r => (if n = o then false else true) && noName o r
theorem noName_spec {o : Nat} : ∀ {l : List (Nat × TO)}, noName o l = true → ∀ ob, (o, ob) ∉ l.map fun p => (p.1, erO p.2)
  | [], _, ob => by simp
  | (n, x) :: r, h, ob => by
    simp only [noName, Bool.and_eq_true] at h
    have hn : n ≠ o := by
      intro hn; rw [if_pos hn] at h; cases h.1
    simp only [List.map_cons, List.mem_cons, Prod.mk.injEq, not_or, not_and]
    exact ⟨fun ho => absurd ho.symm hn, noName_spec h.2 ob⟩
def TOut.kill (o : Nat) (out : TOut) : TOut := { out with upd := (o, .dead) :: out.upd }
theorem call_frz {P : Program} {f : FuncId} {acts : List TV} {L : List TO} {out : TOut} (o : Nat) (e : EL) (xs : List e.T) (hL : L[o]? = some (.vec e xs)) (hob : obl (frzL o e xs acts).1) (h : CallD P f (erL (frzL o e xs acts).2) (erOL (L.set o .dead)) out.er)
    (hno : noName o out.upd = true) : CallD P f (erL acts) (erOL L) (out.kill o).er := by
  have hset : erOL (L.set o .dead) = (erOL L).set o .dead := by simp [erOL, List.map_set, erO]
  rw [hset] at h
  exact callD_frz o (tc e xs) (tl e xs).flatten (by rw [erOL_get, hL]; rfl) (LeL.refl _) (frzL_le acts hob) h (noName_spec hno)

/-- Computed; and a function's contract out of its first state. -/
theorem adv_go {P : Program} {n0 : Nat} {fn : Func} {ts : List POp} {fa : List Ann} {R : TV → List TO → Prop} (f : Nat) (hm : P.follows .mixedOrders = true) (hr : resolveR P fn.results.toList = some ts) {s : List It} {env : List TV} {L : List TO} {A : Prop}
    (e : adv P n0 (FinS P n0 fn R) (finA n0 ts fa R) f s env L = A) (h : A) : Run P n0 (FinS P n0 fn R) s env L :=
  adv_sound hm (fun env L h => finA_sound hr env L h) (e ▸ h : adv P n0 (FinS P n0 fn R) (finA n0 ts fa R) f s env L)
theorem act_go {P : Program} {f : FuncId} {fn : Func} {c : Code} {wc : WC} {A0 : List TV} {L0 : List TO} {R : TV → List TO → Prop} (hf : P.funcs[f]? = some fn) (hb : fn.body = some c) (hn : (fn.name != "runtime.NumGoroutine") = true)
    (hc : resolveC P [] c = some wc.er) {n0 : Nat} (h0 : n0 = L0.length) {A : Prop} (e : Run P n0 (FinS P n0 fn R) [.code wc] (A0 ++ List.replicate (fn.ntmps - A0.length) .und) L0 = A) (h : A) : ACT P f A0 L0 R :=
  act_of_run hf hb hn hc h0 (e ▸ h : Run P n0 (FinS P n0 fn R) [.code wc] (A0 ++ List.replicate (fn.ntmps - A0.length) .und) L0)

end Go.Fw
