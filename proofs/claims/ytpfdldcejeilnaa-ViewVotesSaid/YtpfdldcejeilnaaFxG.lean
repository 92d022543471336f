import Derived.Test.YtpfdldcejeilnaaFxF
set_option linter.unusedVariables false
set_option linter.unusedSimpArgs false
namespace Go.Fw
open Go

section
variable {P : Program} {n0 : Nat} {F : List TV → List TO → Prop} {env env' : List TV} {L L' : List TO} {K : List TV → List TO → Prop}

/-- May this operation be done here? -/
def Wanted (o : POper) (env : List TV) : Prop := o.guard = none ∨ ∃ t want, o.guard = some (t, want) ∧ tev env (.tmp t) = .bool want
def Unwanted (o : POper) (env : List TV) : Prop := ∃ t want, o.guard = some (t, want) ∧ ((∃ b, tev env (.tmp t) = .bool b ∧ b ≠ want) ∨ tev env (.tmp t) = .und)

theorem SO.nil (h : K env L) : SO P n0 [] env L K := by
  intro all l hr L0 g0 w0 g a w hn hst
  cases l with
  | nil => exact ⟨.normal, g, env, L, rfl, hst, rfl, h⟩
  | cons x l =>
    simp only [resolveOps, eraseOps] at hr
    split at hr <;> cases hr

theorem resolveOps_cons {all : Array Oper} {l : List Oper} {po : POper} {ps : List POper} (hr : resolveOps P all l = some (po :: ps)) : ∃ x l', l = x :: l' ∧ resolveOp P all x = some po ∧ resolveOps P all l' = some ps := by
  cases l with
  | nil => simp [resolveOps] at hr
  | cons x l =>
    simp only [resolveOps] at hr
    split at hr
    · rename_i p q h1 h2; cases hr; exact ⟨x, l, rfl, h1, h2⟩
    · cases hr

theorem SO.step {o : POper} {e : Option EL} {r : List WOp} (hg : Wanted o env) (h : opO P o (erL env) (erOL L) (fun out => ∃ tout : TOut, out = tout.er ∧ SO P n0 r (tput env o.dst tout.pv) (tupd L tout.upd) K)) : SO P n0 (.op o e :: r) env L K := by
  intro all l hr L0 g0 w0 g a w hn hst
  obtain ⟨x, l', rfl, hro, hrs⟩ := resolveOps_cons hr
  obtain ⟨hd, hgs⟩ := resolveOp_spec hro
  have hw : Region.wanted x (yielded all a.tmps) = true := by
    rcases hg with hg | ⟨t, want, hg, hb⟩
    · rw [hg] at hgs; exact wanted_none hgs
    · rw [hg] at hgs
      have := (wanted_some hgs hst.ra).1 want (by rw [er_tev, hb]; rfl)
      rw [this]; simp
  obtain ⟨out, hu, ⟨tout, rfl, hk⟩, hdo⟩ := opO_ok hro h
  refine wpList_step fun K' hK => ?_
  rw [if_pos hw]
  refine hdo g w a K' _ (fun x _ => hst.ra.eval x) hst.rh.fr (fun n _ => hst.rh.obj n) (fun n ob hn => ?_) (fun n m b _ _ h1 h2 h3 h4 => hst.rh.inj n m b h1 h2 h3 h4) (fun v g' w' hv hs => ?_)
  · rcases hu.live n ob hn with ⟨_, hl⟩ | hl
    · exact .inl hl
    · exact .inr (hst.new n hl)
  · refine hK _ _ (hk all l' hrs L0 g0 w0 g' _ w' hn ?_)
    rw [er_tput, er_tupd, hd]
    exact hst.step hu hs (hst.ra.put hs.le hv x.dst)

theorem SO.skip {o : POper} {e : Option EL} {r : List WOp} (hg : Unwanted o env) (h : SO P n0 r (tput env o.dst .und) L K) : SO P n0 (.op o e :: r) env L K := by
  intro all l hr L0 g0 w0 g a w hn hst
  obtain ⟨x, l', rfl, hro, hrs⟩ := resolveOps_cons hr
  obtain ⟨hd, hgs⟩ := resolveOp_spec hro
  have hw : Region.wanted x (yielded all a.tmps) = false := by
    obtain ⟨t, want, hg, ⟨b, hb, hne⟩ | hb⟩ := hg
    · rw [hg] at hgs
      have := (wanted_some hgs hst.ra).1 b (by rw [er_tev, hb]; rfl)
      rw [this]; simpa using hne
    · rw [hg] at hgs
      exact (wanted_some hgs hst.ra).2 (by rw [er_tev, hb]; rfl)
  refine wpList_step fun K' hK => ?_
  rw [if_neg (by rw [hw]; simp)]
  refine hK _ _ (h all l' hrs L0 g0 w0 g _ w hn ?_)
  rw [er_tput, hd]
  exact hst.step (upd := []) trivial (Stp.refl hst.rh.fr) (hst.ra.put (Gle.refl g) .und x.dst)

theorem SO.bare {o : POper} {e : Option EL} {r : List WOp} (hg : Wanted o env) (h : SO P n0 (.op { o with guard := none } e :: r) env L K) : SO P n0 (.op o e :: r) env L K := by
  intro all l hr L0 g0 w0 g a w hn hst
  obtain ⟨x, l', rfl, hro, hrs⟩ := resolveOps_cons hr
  obtain ⟨hd, hgs⟩ := resolveOp_spec hro
  have hw : Region.wanted x (yielded all a.tmps) = true := by
    rcases hg with hg | ⟨t, want, hg, hb⟩
    · rw [hg] at hgs; exact wanted_none hgs
    · rw [hg] at hgs
      have := (wanted_some hgs hst.ra).1 want (by rw [er_tev, hb]; rfl)
      rw [this]; simp
  have hro2 : resolveOp P all { x with guard := none } = some { o with guard := none } := by
    unfold resolveOp at hro ⊢
    have e1 : resolve P { x with guard := none } = resolve P x := rfl
    have e2 : opFine P { x with guard := none } = opFine P x := rfl
    rw [e1, e2]
    split at hro
    · rename_i p gd hp hgd
      split at hro
      · rename_i hf
        cases hro
        simp only [hp, guardSlot, hf, if_true]
      · cases hro
    · cases hro
  have := h all ({ x with guard := none } :: l') (by simp only [resolveOps, eraseOps, hro2, hrs]) L0 g0 w0 g a w hn hst
  unfold wpList at this ⊢
  have hw2 : Region.wanted { x with guard := none } (yielded all a.tmps) = true := by simp [Region.wanted]
  rw [if_pos hw2] at this
  rw [if_pos hw]
  exact this

def isCall : POp → Bool
  | .callf _ _ | .callv _ _ => true
  | _ => false

theorem opO_of_tp {o : POper} {e : Option EL} {ob : Option Prop} {out : TOut} {k : Out → Prop} (h : tp env L e o.op = some (ob, out)) (hob : obl ob) (hk : k out.er) : opO P o (erL env) (erOL L) k := by
  obtain ⟨ob', out0, h1, h2, h3⟩ := tp_sound h hob
  unfold opO
  split
  · rename_i f args ho; rw [ho] at h; simp [tp] at h
  · rename_i x args ho; rw [ho] at h; simp [tp] at h
  · rw [h1]; exact ⟨h2, _, h3, hk⟩

theorem SO.op {o : POper} {e : Option EL} {r : List WOp} {ob : Option Prop} {out : TOut} (hg : Wanted o env) (h : tp env L e o.op = some (ob, out)) (hob : obl ob) (hk : SO P n0 r (tput env o.dst out.pv) (tupd L out.upd) K) : SO P n0 (.op o e :: r) env L K :=
  .step hg (opO_of_tp h hob ⟨out, rfl, hk⟩)

/-- Is a frozen slice nil? Only one without elements may be. -/
def nilQ (env : List TV) : POp → Option (Bool × Prop)
  | .isnil 1 neq (.tmp t) =>
    match env[t]? with
    | some (.sl e xs) => some (neq, xs = [])
    | _ => none
  | _ => none

theorem SO.pv {o : POper} {e : Option EL} {r : List WOp} (hg : o.guard = none)
    (h : ∀ L0 g0 w0 g a w, L0.length = n0 → St L0 g0 w0 g (erL env) (erOL L) a w → ∃ env2, St L0 g0 w0 g env2 (erOL L) a w ∧ opO P o env2 (erOL L) (fun out => ∃ te tl, Wk n0 (putE env2 o.dst out.pv) (upL (erOL L) out.upd) (erL te) (erOL tl) ∧ SO P n0 r te tl K)) : SO P n0 (.op o e :: r) env L K := by
  intro all l hr L0 g0 w0 g a w hn hst
  obtain ⟨x, l', rfl, hro, hrs⟩ := resolveOps_cons hr
  obtain ⟨hd, hgs⟩ := resolveOp_spec hro
  have hw : Region.wanted x (yielded all a.tmps) = true := by rw [hg] at hgs; exact wanted_none hgs
  obtain ⟨env2, hst2, h⟩ := h L0 g0 w0 g a w hn hst
  obtain ⟨out, hu, ⟨te, tl, hwk, hk⟩, hdo⟩ := opO_ok hro h
  refine wpList_step fun K' hK => ?_
  rw [if_pos hw]
  refine hdo g w a K' _ (fun x _ => hst2.ra.eval x) hst2.rh.fr (fun n _ => hst2.rh.obj n) (fun n ob hn => ?_) (fun n m b _ _ h1 h2 h3 h4 => hst2.rh.inj n m b h1 h2 h3 h4) (fun v g' w' hv hs => ?_)
  · rcases hu.live n ob hn with ⟨_, hl⟩ | hl
    · exact .inl hl
    · exact .inr (hst2.new n hl)
  · have hst3 := hst2.step hu hs (hst2.ra.put hs.le hv x.dst)
    rw [hd] at hwk
    obtain ⟨g2, hst4⟩ := hwk L0 g0 w0 g' _ w' hn hst3
    exact hK _ _ (hk all l' hrs L0 g0 w0 g2 _ w' hn hst4)

theorem leL_set {l : List PV} {t : Nat} {p q : PV} (h : Le p q) (ht : l[t]? = some q) : LeL (l.set t p) l := by
  have key : ∀ (l : List PV) (t : Nat), l[t]? = some q → LeL (l.set t p) l := by
    intro l
    induction l with
    | nil => intro t h; simp at h
    | cons x l ih =>
      intro t ht
      cases t with
      | zero => simp at ht; subst ht; exact ⟨h, LeL.refl _⟩
      | succ t => exact ⟨Le.refl _, ih t (by simpa using ht)⟩
  exact key l t ht
theorem leL_put {a b : List PV} (h : LeL a b) (d : Option Nat) (p : PV) : LeL (putE a d p) (putE b d p) := by
  cases d with
  | none => exact h
  | some d =>
    have key : ∀ (a b : List PV) (d : Nat), LeL a b → LeL (a.set d p) (b.set d p) := by
      intro a
      induction a with
      | nil => intro b d h; cases b with
        | nil => trivial
        | cons y b => exact h.elim
      | cons x a ih =>
        intro b d h
        cases b with
        | nil => exact h.elim
        | cons y b =>
          cases d with
          | zero => exact ⟨Le.refl _, h.2⟩
          | succ d => exact ⟨h.1, ih b d h.2⟩
    exact key a b d h

theorem SO.nilq {o : POper} {e : Option EL} {r : List WOp} {neq : Bool} {Z : Prop} (hg : o.guard = none) (hq : nilQ env o.op = some (neq, Z))
    (h : ∀ nb : Bool, (nb = true → Z) → SO P n0 r (tput env o.dst (.bool (bif neq then !nb else nb))) L K) : SO P n0 (.op o e :: r) env L K := by
  obtain ⟨d, op, gd⟩ := o
  simp only at hg hq h
  unfold nilQ at hq
  split at hq
  · rename_i neq' t
    split at hq
    · rename_i el xs ht
      cases hq
      have het : (erL env)[t]? = some (.d (.sl (tl el xs))) := by rw [erL_get, ht]; rfl
      refine SO.pv hg (fun L0 g0 w0 g a w hn hst => ?_)
      have hrep := hst.ra.rep t _ het
      have finish : ∀ (p : PV) (nb : Bool), Rep g (a.tmps.getD t undef) p → Le p (.d (.sl (tl el xs))) → (nb = true → xs = []) →
          (∀ env2 : List PV, ev env2 (.tmp t) = p → peval env2 (erOL L) (.isnil 1 neq (.tmp t)) = some (True, .pure (.d (.bool (bif neq then !nb else nb))))) →
          ∃ env2, St L0 g0 w0 g env2 (erOL L) a w ∧ opO P ⟨d, .isnil 1 neq (.tmp t), gd⟩ env2 (erOL L) (fun out => ∃ te tl, Wk n0 (putE env2 d out.pv) (upL (erOL L) out.upd) (erL te) (erOL tl) ∧ SO P n0 r te tl K) := by
        intro p nb hr hle hnb hpe
        have hlt : t < (erL env).length := (List.getElem?_eq_some_iff.1 het).1
        refine ⟨(erL env).set t p, { hst with ra := ⟨by rw [hst.ra.size]; simp, fun s q hq => ?_, hst.ra.defers⟩ }, ?_⟩
        · by_cases hs : s = t
          · subst hs
            simp [List.getElem?_set, hlt] at hq
            subst hq; exact hr
          · rw [List.getElem?_set_ne (Ne.symm hs)] at hq
            exact hst.ra.rep s q hq
        · have hev : ev ((erL env).set t p) (.tmp t) = p := by simp [ev, hlt]
          unfold opO
          simp only [hpe _ hev]
          refine ⟨trivial, _, LeOut.refl _, tput env d (.bool (bif neq then !nb else nb)), L, ?_, h nb hnb⟩
          rw [er_tput]
          exact wk_le (leL_put (leL_set hle het) d _)
      generalize hv : a.tmps.getD t undef = v at hrep finish
      have nonnil : ∀ b n cap, v = .slice (some b) n cap → ∃ env2, St L0 g0 w0 g env2 (erOL L) a w ∧ opO P ⟨d, .isnil 1 neq (.tmp t), gd⟩ env2 (erOL L) (fun out => ∃ te tl, Wk n0 (putE env2 d out.pv) (upL (erOL L) out.upd) (erL te) (erOL tl) ∧ SO P n0 r te tl K) := by
        intro b n cap hvb
        refine finish (.fsl (tl el xs) false) false ?_ (Le.fsl _ _) (by simp) (fun env2 he => by simp only [peval, he]; cases neq <;> rfl)
        rw [hvb] at hrep ⊢
        cases hrep with | d hd => exact .fsl _ b n cap false hd (fun h => by cases h)
      cases hrep with
      | d hd =>
        generalize htl : tl el xs = es at hd
        cases hd with
        | sl0 b cap hb =>
          cases b with
          | none =>
            have := hb rfl
            subst this
            have hx : xs = [] := by
              have := congrArg List.length htl
              rw [tl_len] at this; exact List.length_eq_zero_iff.1 (by simpa using this)
            refine finish .nilsl true .nilsl (by rw [htl]; exact Le.nilsl) (fun _ => hx) (fun env2 he => by simp only [peval, he]; cases neq <;> rfl)
          | some b => exact nonnil b 0 cap rfl
        | sl b off cap sz n _ f h1 h2 h3 h4 h5 => exact nonnil _ _ _ rfl
    · cases hq
  · cases hq

/-! Regions whose order is drawn. -/
def TOut.nms (o : TOut) : Nms := (o.upd.map (·.1), o.rd)
theorem nms_er (o : TOut) : o.er.nms = o.nms := by
  simp [Out.nms, TOut.nms, TOut.er]

theorem SD.nil {ords : List (List Nat)} {ns : List Nms} (h1 : okNms ords ns = true) (h : K env L) : SD P [] ords ns env L K := by
  show okNms ords (ns ++ []) = true ∧ liftK K (erL env) (erOL L)
  rw [List.append_nil]
  exact ⟨h1, env, L, rfl, rfl, h⟩
theorem SD.step {o : POper} {e : Option EL} {r : List WOp} {ords : List (List Nat)} {ns : List Nms} (hg : Wanted o env) (h : opO P o (erL env) (erOL L) (fun out => ∃ tout : TOut, out = tout.er ∧ SD P r ords (ns ++ [tout.nms]) (tput env o.dst tout.pv) (tupd L tout.upd) K)) : SD P (.op o e :: r) ords ns env L K := by
  have key : opO P o (erL env) (erOL L) (fun out => dregK P (eraseOps r) (putE (erL env) o.dst out.pv) (upL (erOL L) out.upd) (fun ns' env L => okNms ords (ns ++ (out.nms :: ns')) = true ∧ liftK K env L)) := by
    refine opO_mono h (fun out ⟨tout, ho, hk⟩ => ?_)
    subst ho
    unfold SD at hk
    rw [er_tput, er_tupd] at hk
    rw [nms_er]
    simp only [List.append_assoc, List.singleton_append] at hk
    exact hk
  unfold SD
  simp only [eraseOps, dregK]
  rcases hg with hg | ⟨t, want, hg, hb⟩
  · rw [hg]; exact key
  · rw [hg]
    have : ev (erL env) (.tmp t) = .d (.bool want) := by rw [er_tev, hb]; rfl
    simp only [this, if_true]
    exact key
theorem SD.skip {o : POper} {e : Option EL} {r : List WOp} {ords : List (List Nat)} {ns : List Nms} (hg : Unwanted o env) (h : SD P r ords (ns ++ [([], [])]) (tput env o.dst .und) L K) : SD P (.op o e :: r) ords ns env L K := by
  have key : dregK P (eraseOps r) (putE (erL env) o.dst .und) (erOL L) (fun ns' env L => okNms ords (ns ++ (([], []) :: ns')) = true ∧ liftK K env L) := by
    unfold SD at h
    rw [er_tput] at h
    simp only [List.append_assoc, List.singleton_append] at h
    exact h
  unfold SD
  simp only [eraseOps, dregK]
  obtain ⟨t, want, hg, ⟨b, hb, hne⟩ | hb⟩ := hg
  · rw [hg]
    have : ev (erL env) (.tmp t) = .d (.bool b) := by rw [er_tev, hb]; rfl
    simp only [this, if_neg hne]
    exact key
  · rw [hg]
    have : ev (erL env) (.tmp t) = .und := by rw [er_tev, hb]; rfl
    simp only [this]
    exact key
theorem SD.bare {o : POper} {e : Option EL} {r : List WOp} {ords : List (List Nat)} {ns : List Nms} (hg : Wanted o env) (h : SD P (.op { o with guard := none } e :: r) ords ns env L K) : SD P (.op o e :: r) ords ns env L K := by
  unfold SD at h ⊢
  simp only [eraseOps, dregK] at h ⊢
  rcases hg with hg | ⟨t, want, hg, hb⟩
  · rw [hg]; exact h
  · rw [hg]
    have : ev (erL env) (.tmp t) = .d (.bool want) := by rw [er_tev, hb]; rfl
    simp only [this, if_true]
    exact h
theorem SD.op {o : POper} {e : Option EL} {r : List WOp} {ords : List (List Nat)} {ns : List Nms} {ob : Option Prop} {out : TOut} (hg : Wanted o env) (h : tp env L e o.op = some (ob, out)) (hob : obl ob) (hk : SD P r ords (ns ++ [out.nms]) (tput env o.dst out.pv) (tupd L out.upd) K) : SD P (.op o e :: r) ords ns env L K :=
  .step hg (opO_of_tp h hob ⟨out, rfl, hk⟩)

/-! ### Computing what code must do -/

def obK : Option Prop → Prop → Prop
  | none, K => K
  | some p, K => p ∧ K
theorem obK_spec {ob : Option Prop} {K : Prop} (h : obK ob K) : obl ob ∧ K := by
  cases ob with
  | none => exact ⟨trivial, h⟩
  | some p => exact h
def BrW (want b : Bool) (X Y : Prop) : Prop :=
  match want with
  | true => Br b X Y
  | false => Br b Y X
theorem BrW_spec {want b : Bool} {X Y : Prop} (h : BrW want b X Y) : (b = want → X) ∧ (b ≠ want → Y) := by
  cases want <;> cases b <;> simp_all [BrW, Br]
def unw (i : Nat) : List It → Option (List It)
  | [] => none
  | .bend id :: s => if i = id then some s else unw i s
  | _ :: s => unw i s
def putC (env : List TV) (c : Operand) (b : Bool) : List TV :=
  match c with
  | .tmp t => env.set t (.bool b)
  | _ => env

def adv (P : Program) (n0 : Nat) (F FA : List TV → List TO → Prop) : Nat → List It → List TV → List TO → Prop
  | 0, s, env, L => Run P n0 F s env L
  | _ + 1, [], env, L => FA env L
  | f + 1, .code c :: s, env, L =>
    match c with
    | .skip => adv P n0 F FA f s env L
    | .region ops => adv P n0 F FA f (.ops ops :: s) env L
    | .dregion ops ords => adv P n0 F FA f (.dops ops ords [] :: s) env L
    | .seq a b => adv P n0 F FA f (.code a :: .code b :: s) env L
    | .cond c a b =>
      match tev env c with
      | .bool t => Br t (adv P n0 F FA f (.code a :: s) (putC env c true) L) (adv P n0 F FA f (.code b :: s) (putC env c false) L)
      | _ => False
    | .block id c => adv P n0 F FA f (.code c :: .bend id :: s) env L
    | .loop bk c => Run P n0 F (.lp bk c :: s) env L
    | .uloop c => adv P n0 F FA f (.code c :: .ulp c :: s) env L
    | .exit i =>
      match unw i s with
      | some s' => adv P n0 F FA f s' env L
      | none => False
    | .ret => FA env L
    | .ann as c =>
      match anns n0 as env L with
      | some (ob, env', L') => obK ob (adv P n0 F FA f (.code c :: s) env' L')
      | none => False
    | .cut c => Run P n0 F (.code c :: s) env L
  | f + 1, .ops [] :: s, env, L => adv P n0 F FA f s env L
  | f + 1, .ops (.ann as :: r) :: s, env, L =>
    match anns n0 as env L with
    | some (ob, env', L') => obK ob (adv P n0 F FA f (.ops r :: s) env' L')
    | none => False
  | f + 1, .ops (.op o e :: r) :: s, env, L =>
    match o.guard with
    | none =>
      match isCall o.op with
      | true => Run P n0 F (.ops (.op o e :: r) :: s) env L
      | false =>
        match nilQ env o.op with
        | some (neq, Z) => ∀ nb : Bool, (nb = true → Z) → adv P n0 F FA f (.ops r :: s) (tput env o.dst (.bool (bif neq then !nb else nb))) L
        | none =>
          match tp env L e o.op with
          | some (ob, out) => obK ob (adv P n0 F FA f (.ops r :: s) (tput env o.dst out.pv) (tupd L out.upd))
          | none => False
    | some (t, want) =>
      match tev env (.tmp t) with
      | .bool b => BrW want b (adv P n0 F FA f (.ops (.op { o with guard := none } e :: r) :: s) (env.set t (.bool want)) L) (adv P n0 F FA f (.ops r :: s) (tput (env.set t (.bool (!want))) o.dst .und) L)
      | .und => adv P n0 F FA f (.ops r :: s) (tput env o.dst .und) L
      | _ => False
  | f + 1, .dops [] ords ns :: s, env, L =>
    match okNms ords ns with
    | true => adv P n0 F FA f s env L
    | false => False
  | f + 1, .dops (.ann as :: r) ords ns :: s, env, L => adv P n0 F FA f (.dops r ords ns :: s) env L
  | f + 1, .dops (.op o e :: r) ords ns :: s, env, L =>
    match o.guard with
    | none =>
      match isCall o.op with
      | true => Run P n0 F (.dops (.op o e :: r) ords ns :: s) env L
      | false =>
        match tp env L e o.op with
        | some (ob, out) => obK ob (adv P n0 F FA f (.dops r ords (ns ++ [out.nms]) :: s) (tput env o.dst out.pv) (tupd L out.upd))
        | none => False
    | some (t, want) =>
      match tev env (.tmp t) with
      | .bool b => BrW want b (adv P n0 F FA f (.dops (.op { o with guard := none } e :: r) ords ns :: s) (env.set t (.bool want)) L) (adv P n0 F FA f (.dops r ords (ns ++ [([], [])]) :: s) (tput (env.set t (.bool (!want))) o.dst .und) L)
      | .und => adv P n0 F FA f (.dops r ords (ns ++ [([], [])]) :: s) (tput env o.dst .und) L
      | _ => False
  | f + 1, .bend _ :: s, env, L => adv P n0 F FA f s env L
  | f + 1, .ulp c :: s, env, L => adv P n0 F FA f (.code c :: .ulp c :: s) env L
  | f + 1, .lp bk c :: s, env, L =>
    match anns n0 bk env L with
    | some (ob, env', L') => obK ob (Run P n0 F (.lp bk c :: s) env' L')
    | none => False

theorem KQ_ret : ∀ {s : List It}, F env L → KQ P n0 F s .ret env L
  | [], h => h
  | .code c :: s, h => KQ_ret (s := s) h
  | .ops l :: s, h => KQ_ret (s := s) h
  | .dops l ords ns :: s, h => KQ_ret (s := s) h
  | .bend id :: s, h => KQ_ret (s := s) h
  | .lp bk c :: s, h => KQ_ret (s := s) h
  | .ulp c :: s, h => KQ_ret (s := s) h
theorem KQ_exit {i : Nat} : ∀ {s s' : List It}, unw i s = some s' → Run0 P n0 F s' env L → KQ P n0 F s (.exit i) env L
  | [], s', h, _ => by simp [unw] at h
  | .code c :: s, s', h, hr => KQ_exit (s := s) h hr
  | .ops l :: s, s', h, hr => KQ_exit (s := s) h hr
  | .dops l ords ns :: s, s', h, hr => KQ_exit (s := s) h hr
  | .lp bk c :: s, s', h, hr => KQ_exit (s := s) h hr
  | .ulp c :: s, s', h, hr => KQ_exit (s := s) h hr
  | .bend id :: s, s', h, hr => by
    simp only [unw] at h
    simp only [KQ]
    split at h
    · rename_i hi; cases h; rw [if_pos hi]; exact hr
    · rename_i hi; rw [if_neg hi]; exact KQ_exit (s := s) h hr

theorem tev_tmp {t : Nat} {v : TV} (h : tev env (.tmp t) = v) (hne : v ≠ .dead) : env[t]? = some v := by
  simp only [tev] at h
  cases he : env[t]? with
  | none => rw [he] at h; exact absurd h.symm hne
  | some x => rw [he] at h; simpa using h
theorem putC_same {c : Operand} {b : Bool} (h : tev env c = .bool b) : putC env c b = env := by
  cases c with
  | tmp t => exact set_same (tev_tmp h (by simp))
  | _ => rfl

theorem adv_sound0 (hm : P.follows .mixedOrders = true) {FA : List TV → List TO → Prop} (hF : ∀ env L, FA env L → F env L) : ∀ {f : Nat} {s : List It} {env : List TV} {L : List TO}, adv P n0 F FA f s env L → Run0 P n0 F s env L := by
  intro f
  induction f with
  | zero => intro s env L h; exact h.run
  | succ f ih =>
    intro s env L h
    cases s with
    | nil => exact hF _ _ h
    | cons it s =>
      cases it with
      | code c =>
        cases c with
        | skip => exact SV.skip (ih h)
        | region ops => exact SV.region (ih (s := .ops ops :: s) h)
        | dregion ops ords => exact SV.dregion hm (ih (s := .dops ops ords [] :: s) h)
        | seq a b =>
          refine SV.seq ?_
          have := ih (s := .code a :: .code b :: s) h
          exact this
        | cond c a b =>
          simp only [adv] at h
          split at h
          · rename_i t hc
            have h := Br_iff.1 h
            refine SV.cond hc (fun hb => ?_) (fun hb => ?_)
            · have := ih (s := .code a :: s) (h.1 hb)
              rw [putC_same (hb ▸ hc)] at this
              exact this
            · have := ih (s := .code b :: s) (h.2 hb)
              rw [putC_same (hb ▸ hc)] at this
              exact this
          · exact h.elim
        | block id c =>
          refine SV.block ?_
          have := ih (s := .code c :: .bend id :: s) h
          exact this
        | loop bk c => exact SV.loop h.run
        | uloop c => exact SV.uloop (SLoop.round (ih (s := .code c :: .ulp c :: s) h))
        | exit i =>
          simp only [adv] at h
          split at h
          · rename_i s' hs'
            exact SV.exit (KQ_exit hs' (ih h))
          · exact h.elim
        | ret => exact SV.ret (KQ_ret (hF _ _ h))
        | ann as c =>
          simp only [adv] at h
          split at h
          · rename_i ob env' L' ha
            obtain ⟨h1, h2⟩ := obK_spec h
            exact SV.wk (anns_sound ha h1) (ih (s := .code c :: s) h2)
          · exact h.elim
        | cut c => exact h.run
      | ops l =>
        cases l with
        | nil => exact SO.nil (ih h)
        | cons x r =>
          cases x with
          | ann as =>
            simp only [adv] at h
            split at h
            · rename_i ob env' L' ha
              obtain ⟨h1, h2⟩ := obK_spec h
              exact SO.wk (l := .ann as :: r) (anns_sound ha h1) (ih (s := .ops r :: s) h2)
            · exact h.elim
          | op o e =>
            simp only [adv] at h
            split at h
            · rename_i hg
              split at h
              · exact h.run
              · split at h
                · rename_i neq Z hq
                  exact SO.nilq (e := e) hg hq (fun nb hnb => ih (s := .ops r :: s) (h nb hnb))
                · split at h
                  · rename_i ob out ht
                    obtain ⟨h1, h2⟩ := obK_spec h
                    exact SO.op (e := e) (.inl hg) ht h1 (ih (s := .ops r :: s) h2)
                  · exact h.elim
            · rename_i t want hg
              split at h
              · rename_i b hb
                obtain ⟨h1, h2⟩ := BrW_spec h
                by_cases hbw : b = want
                · subst hbw
                  have := ih (s := .ops (.op { o with guard := none } e :: r) :: s) (h1 rfl)
                  rw [set_same (tev_tmp hb (by simp))] at this
                  exact SO.bare (.inr ⟨t, b, hg, hb⟩) this
                · have := ih (s := .ops r :: s) (h2 hbw)
                  have hb2 : (!want) = b := by cases want <;> cases b <;> simp_all
                  rw [hb2, set_same (tev_tmp hb (by simp))] at this
                  exact SO.skip ⟨t, want, hg, .inl ⟨b, hb, hbw⟩⟩ this
              · rename_i hb
                exact SO.skip ⟨t, want, hg, .inr hb⟩ (ih (s := .ops r :: s) h)
              · exact h.elim
      | dops l ords ns =>
        cases l with
        | nil =>
          simp only [adv] at h
          split at h
          · rename_i hk
            show SD P [] ords ns env L (KQ P n0 F s .normal)
            exact SD.nil hk (ih h)
          · exact h.elim
        | cons x r =>
          cases x with
          | ann as => exact ih (s := .dops r ords ns :: s) h
          | op o e =>
            simp only [adv] at h
            split at h
            · rename_i hg
              split at h
              · exact h.run
              · split at h
                · rename_i ob out ht
                  obtain ⟨h1, h2⟩ := obK_spec h
                  exact SD.op (e := e) (.inl hg) ht h1 (ih (s := .dops r ords (ns ++ [out.nms]) :: s) h2)
                · exact h.elim
            · rename_i t want hg
              split at h
              · rename_i b hb
                obtain ⟨h1, h2⟩ := BrW_spec h
                by_cases hbw : b = want
                · subst hbw
                  have := ih (s := .dops (.op { o with guard := none } e :: r) ords ns :: s) (h1 rfl)
                  rw [set_same (tev_tmp hb (by simp))] at this
                  exact SD.bare (e := e) (.inr ⟨t, b, hg, hb⟩) this
                · have := ih (s := .dops r ords (ns ++ [([], [])]) :: s) (h2 hbw)
                  have hb2 : (!want) = b := by cases want <;> cases b <;> simp_all
                  rw [hb2, set_same (tev_tmp hb (by simp))] at this
                  exact SD.skip (e := e) ⟨t, want, hg, .inl ⟨b, hb, hbw⟩⟩ this
              · rename_i hb
                exact SD.skip (e := e) ⟨t, want, hg, .inr hb⟩ (ih (s := .dops r ords (ns ++ [([], [])]) :: s) h)
              · exact h.elim
      | bend id =>
        have := ih (s := s) h
        exact this
      | ulp c =>
        have : SLoop P n0 c env L (KQ P n0 F s) := SLoop.round (ih (s := .code c :: .ulp c :: s) h)
        exact this
      | lp bk c =>
        simp only [adv] at h
        split at h
        · rename_i ob env' L' ha
          obtain ⟨h1, h2⟩ := obK_spec h
          exact SLoop.wk (anns_sound ha h1) h2.run
        · exact h.elim

theorem adv_sound (hm : P.follows .mixedOrders = true) {FA : List TV → List TO → Prop} (hF : ∀ env L, FA env L → F env L) {f : Nat} {s : List It} {env : List TV} {L : List TO} (h : adv P n0 F FA f s env L) : Run P n0 F s env L := ⟨adv_sound0 hm hF h⟩

/-- A loop, once round. -/
theorem run_loop {bk : List Ann} {c : WC} {s : List It} (h : Run P n0 F (.code c :: .lp bk c :: s) env L) : Run P n0 F (.lp bk c :: s) env L := ⟨SLoop.round h.run⟩

end
end Go.Fw
