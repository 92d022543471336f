import Derived.Test.YtpfdldcejeilnaaFwS
import Derived.Scope
set_option linter.unusedVariables false
set_option linter.unusedSimpArgs false
namespace Go.Fw
open Go

/-- A region in the text's order. -/
theorem regK_list {P : Program} {ops : Array Oper} {L0 : List PObj} {g0 : Gh} {w0 : World} {Q : Exit → Act → World → Prop} : ∀ {l : List Oper} {pl : List POper} {env : List PV} {L : List PObj} {k : List PV → List PObj → Prop} {g : Gh} {a : Act} {w : World},
    resolveOps P ops l = some pl → regK P pl env L k → St L0 g0 w0 g env L a w → (∀ env' L' g' a' w', St L0 g0 w0 g' env' L' a' w' → k env' L' → Q .normal a' w') → wpList P ops Q l a w
  | [], pl, env, L, k, g, a, w, hr, h, hst, hQ => by
    simp only [resolveOps, Option.some.injEq] at hr
    subst hr
    exact hQ _ _ _ _ _ hst h
  | o :: l, pl, env, L, k, g, a, w, hr, h, hst, hQ => by
    simp only [resolveOps] at hr
    split at hr
    · rename_i po ps hro hrs
      simp only [Option.some.injEq] at hr
      subst hr
      obtain ⟨hd, hgs⟩ := resolveOp_spec hro
      simp only [regK] at h
      have exec : opK P po env L (fun env L => regK P ps env L k) → Region.wanted o (yielded ops a.tmps) = true → wpList P ops Q (o :: l) a w := by
        intro h hw
        obtain ⟨out, hu, hk, hdo⟩ := opK_ok hro h
        refine wpList_step fun K hK => ?_
        rw [if_pos hw]
        refine hdo g w a K Q (fun x _ => hst.ra.eval x) hst.rh.fr (fun n _ => hst.rh.obj n) (fun n ob hn => ?_) (fun n m b _ _ h1 h2 h3 h4 => hst.rh.inj n m b h1 h2 h3 h4) (fun v g' w' hv hs => ?_)
        · rcases hu.live n ob hn with ⟨_, hl⟩ | hl
          · exact .inl hl
          · exact .inr (hst.new n hl)
        · exact hK _ _ (regK_list hrs hk (hst.step hu hs (hst.ra.put hs.le hv o.dst)) hQ)
      have skip : regK P ps (putE env po.dst .und) L k → Region.wanted o (yielded ops a.tmps) = false → wpList P ops Q (o :: l) a w := by
        intro h hw
        refine wpList_step fun K hK => ?_
        rw [if_neg (by rw [hw]; simp)]
        rw [hd] at h
        have := hst.step (upd := []) trivial (Stp.refl hst.rh.fr) (hst.ra.put (Gle.refl g) .und o.dst)
        exact hK _ _ (regK_list hrs h this hQ)
      split at h
      · rename_i hg
        rw [hg] at hgs
        exact exec h (wanted_none hgs)
      · rename_i t want hg
        rw [hg] at hgs
        obtain ⟨w1, w2⟩ := wanted_some hgs hst.ra
        split at h
        · rename_i b hb
          split at h
          · rename_i hbw
            exact exec h (by rw [w1 b hb, hbw]; simp)
          · rename_i hbw
            exact skip h (by rw [w1 b hb]; simpa using hbw)
        · rename_i hb
          exact skip h (w2 hb)
        · exact h.elim
    · cases hr

/-! ### Code -/

inductive PCode where
  | skip
  | region (ops : List POper)
  | dregion (ops : List POper) (ords : List (List Nat))
  | wregion (ops : List POper)
  | wdregion (ops : List POper) (ords : List (List Nat))
  | seq (a b : PCode)
  | cond (c : Operand) (a b : PCode)
  | block (id : Nat) (c : PCode)
  | loop (c : PCode)
  | exit (id : Nat)
  | ret
  deriving Inhabited

inductive PExit where
  | normal
  | exit (id : Nat)
  | ret
  deriving DecidableEq

/-- The code with its types looked up; ws: the regions ahead of which less may be known. -/
def resolveC (P : Program) (ws : List Nat) : Code → Option PCode
  | .skip => some .skip
  | .label _ => some .skip
  | .region id ops false => (resolveOps P ops ops.toList).map fun ps => if ws.contains id then .wregion ps else .region ps
  | .region id ops true => if okEdges ops && okOrds ops (mkOrds ops.toList) && okSlots ops (mkOrds ops.toList) then (resolveOps P ops ops.toList).map fun ps => if ws.contains id then .wdregion ps (mkOrds ops.toList) else .dregion ps (mkOrds ops.toList) else none
  | .scope c => resolveC P ws c
  | .seq a b =>
    match resolveC P ws a, resolveC P ws b with
    | some x, some y => some (.seq x y)
    | _, _ => none
  | .cond c a b =>
    match resolveC P ws a, resolveC P ws b with
    | some x, some y => some (.cond c x y)
    | _, _ => none
  | .block id c => (resolveC P ws c).map (.block id)
  | .loop c => (resolveC P ws c).map .loop
  | .exit id => some (.exit id)
  | .ret => some .ret
  | _ => none

/-- Less is known: another frame and other objects that the same memory has; the first n0 objects keep their names. -/
def Wk (n0 : Nat) (env : List PV) (L : List PObj) (env' : List PV) (L' : List PObj) : Prop :=
  ∀ (L0 : List PObj) (g0 : Gh) (w0 : World) (g : Gh) (a : Act) (w : World), L0.length = n0 → St L0 g0 w0 g env L a w → ∃ g', St L0 g0 w0 g' env' L' a w

def vc (P : Program) (n0 : Nat) : PCode → List PV → List PObj → (PExit → List PV → List PObj → Prop) → Prop
  | .skip, env, L, Q => Q .normal env L
  | .region ops, env, L, Q => regK P ops env L (Q .normal)
  | .dregion ops ords, env, L, Q => dregK P ops env L (fun ns env L => okNms ords ns = true ∧ Q .normal env L)
  | .wregion ops, env, L, Q => ∃ env' L', Wk n0 env L env' L' ∧ regK P ops env' L' (Q .normal)
  | .wdregion ops ords, env, L, Q => ∃ env' L', Wk n0 env L env' L' ∧ dregK P ops env' L' (fun ns env L => okNms ords ns = true ∧ Q .normal env L)
  | .seq x y, env, L, Q => vc P n0 x env L (fun e env L => match e with
    | .normal => vc P n0 y env L Q
    | .exit i => Q (.exit i) env L
    | .ret => Q .ret env L)
  | .cond c x y, env, L, Q =>
    match ev env c with
    | .d (.bool t) => if t = true then vc P n0 x env L Q else vc P n0 y env L Q
    | _ => False
  | .block id c, env, L, Q => vc P n0 c env L (fun e env L => match e with
    | .normal => Q .normal env L
    | .exit i => if i = id then Q .normal env L else Q (.exit i) env L
    | .ret => Q .ret env L)
  | .loop c, env, L, Q => ∀ X : List PV → List PObj → Prop, (∀ env L, (∃ env1 L1, Wk n0 env L env1 L1 ∧ vc P n0 c env1 L1 (fun e env L => match e with
        | .normal => X env L
        | .exit i => Q (.exit i) env L
        | .ret => Q .ret env L)) → X env L) → X env L
  | .exit id, env, L, Q => Q (.exit id) env L
  | .ret, env, L, Q => Q .ret env L

theorem opO_mono {P : Program} {o : POper} {env : List PV} {L : List PObj} {k k' : Out → Prop} (h : opO P o env L k) (hk : ∀ out, k out → k' out) : opO P o env L k' := by
  unfold opO at h ⊢
  split
  · rename_i f args ho
    rw [ho] at h
    obtain ⟨out, h1, h2⟩ := h; exact ⟨out, h1, hk _ h2⟩
  · rename_i x args ho
    rw [ho] at h
    simp only at h
    split
    · rename_i f first caps hx
      rw [hx] at h
      obtain ⟨out, h1, h2⟩ := h; exact ⟨out, h1, hk _ h2⟩
    · rename_i hx
      split at h
      · rename_i f first caps hx'; exact absurd hx' (hx f first caps)
      · exact h
  · rename_i p h1 h2
    split at h
    · rename_i f args ho; exact absurd ho (h1 f args)
    · rename_i x args ho; exact absurd ho (h2 x args)
    · split at h
      · obtain ⟨h1, out', h2, h3⟩ := h
        exact ⟨h1, out', h2, hk _ h3⟩
      · exact h.elim

theorem regK_mono {P : Program} : ∀ {ops : List POper} {env : List PV} {L : List PObj} {k k' : List PV → List PObj → Prop}, regK P ops env L k → (∀ env L, k env L → k' env L) → regK P ops env L k'
  | [], env, L, k, k', h, hk => hk _ _ h
  | o :: r, env, L, k, k', h, hk => by
    have go : ∀ {env L}, opK P o env L (fun env L => regK P r env L k) → opK P o env L (fun env L => regK P r env L k') := fun h => opO_mono h (fun out h => regK_mono h hk)
    simp only [regK] at h ⊢
    split
    · rename_i hg; rw [hg] at h; exact go h
    · rename_i t want hg
      rw [hg] at h
      simp only at h
      split
      · rename_i b hb
        rw [hb] at h
        simp only at h
        split
        · rename_i hw; rw [if_pos hw] at h; exact go h
        · rename_i hw; rw [if_neg hw] at h; exact regK_mono h hk
      · rename_i hb
        rw [hb] at h
        exact regK_mono h hk
      · rename_i h1 h2
        split at h
        · rename_i b hb; exact absurd hb (h1 b)
        · rename_i hb; exact absurd hb h2
        · exact h

theorem dregK_mono {P : Program} : ∀ {ops : List POper} {env : List PV} {L : List PObj} {k k' : List Nms → List PV → List PObj → Prop}, dregK P ops env L k → (∀ ns env L, k ns env L → k' ns env L) → dregK P ops env L k'
  | [], env, L, k, k', h, hk => hk _ _ _ h
  | o :: r, env, L, k, k', h, hk => by
    have go : ∀ {env L}, opO P o env L (fun out => dregK P r (putE env o.dst out.pv) (upL L out.upd) (fun ns => k (out.nms :: ns))) → opO P o env L (fun out => dregK P r (putE env o.dst out.pv) (upL L out.upd) (fun ns => k' (out.nms :: ns))) := fun h => opO_mono h (fun out h => dregK_mono h (fun ns => hk _))
    simp only [dregK] at h ⊢
    split
    · rename_i hg; rw [hg] at h; exact go h
    · rename_i t want hg
      rw [hg] at h
      simp only at h
      split
      · rename_i b hb
        rw [hb] at h
        simp only at h
        split
        · rename_i hw; rw [if_pos hw] at h; exact go h
        · rename_i hw; rw [if_neg hw] at h; exact dregK_mono h (fun ns => hk _)
      · rename_i hb
        rw [hb] at h
        exact dregK_mono h (fun ns => hk _)
      · rename_i h1 h2
        split at h
        · rename_i b hb; exact absurd hb (h1 b)
        · rename_i hb; exact absurd hb h2
        · exact h

theorem vc_mono {P : Program} {n0 : Nat} : ∀ {pc : PCode} {env : List PV} {L : List PObj} {Q Q' : PExit → List PV → List PObj → Prop}, vc P n0 pc env L Q → (∀ e env L, Q e env L → Q' e env L) → vc P n0 pc env L Q' := by
  intro pc
  induction pc with
  | skip => intro env L Q Q' h hq; exact hq _ _ _ h
  | region ops => intro env L Q Q' h hq; exact regK_mono h (hq _)
  | dregion ops ords => intro env L Q Q' h hq; exact dregK_mono h (fun ns env L h => ⟨h.1, hq _ _ _ h.2⟩)
  | wregion ops => intro env L Q Q' h hq; obtain ⟨e1, L1, h1, h2⟩ := h; exact ⟨e1, L1, h1, regK_mono h2 (hq _)⟩
  | wdregion ops ords => intro env L Q Q' h hq; obtain ⟨e1, L1, h1, h2⟩ := h; exact ⟨e1, L1, h1, dregK_mono h2 (fun ns env L h => ⟨h.1, hq _ _ _ h.2⟩)⟩
  | seq x y ihx ihy =>
    intro env L Q Q' h hq
    refine ihx (Q := fun e env L => match e with | .normal => vc P n0 y env L Q | .exit i => Q (.exit i) env L | .ret => Q .ret env L) h (fun e env L h => ?_)
    cases e with
    | normal => exact ihy h hq
    | exit i => exact hq _ _ _ h
    | ret => exact hq _ _ _ h
  | cond c x y ihx ihy =>
    intro env L Q Q' h hq
    simp only [vc] at h ⊢
    split at h
    · rename_i t ht
      try rw [ht]
      split at h
      · rename_i hc; rw [if_pos hc]; exact ihx h hq
      · rename_i hc; rw [if_neg hc]; exact ihy h hq
    · exact h.elim
  | block id c ih =>
    intro env L Q Q' h hq
    refine ih (Q := fun e env L => match e with | .normal => Q .normal env L | .exit i => if i = id then Q .normal env L else Q (.exit i) env L | .ret => Q .ret env L) h (fun e env L h => ?_)
    cases e with
    | normal => exact hq _ _ _ h
    | exit i =>
      simp only at h ⊢
      split at h
      · rename_i hi; rw [if_pos hi]; exact hq _ _ _ h
      · rename_i hi; rw [if_neg hi]; exact hq _ _ _ h
    | ret => exact hq _ _ _ h
  | loop c ih =>
    intro env L Q Q' h hq X hX
    refine h X (fun env L ⟨e1, L1, hw, hv⟩ => hX env L ⟨e1, L1, hw, ih hv (fun e env L h => ?_)⟩)
    cases e with
    | normal => exact h
    | exit i => exact hq _ _ _ h
    | ret => exact hq _ _ _ h
  | exit id => intro env L Q Q' h hq; exact hq _ _ _ h
  | ret => intro env L Q Q' h hq; exact hq _ _ _ h

/-- A loop, once round. -/
theorem vc_unroll {P : Program} {n0 : Nat} {c : PCode} {env : List PV} {L : List PObj} {Q : PExit → List PV → List PObj → Prop} (h : vc P n0 c env L (fun e env L => match e with
    | .normal => vc P n0 (.loop c) env L Q
    | .exit i => Q (.exit i) env L
    | .ret => Q .ret env L)) : vc P n0 (.loop c) env L Q := by
  intro X hX
  refine hX env L ⟨env, L, fun _ _ _ g _ _ _ h => ⟨g, h⟩, vc_mono h (fun e env L h => ?_)⟩
  cases e with
  | normal => exact h X hX
  | exit i => exact h
  | ret => exact h

/-- A loop by what holds at each round's start, and a number that falls. -/
theorem vc_inv {P : Program} {n0 : Nat} {c : PCode} {env : List PV} {L : List PObj} {Q : PExit → List PV → List PObj → Prop} (I : Nat → List PV → List PObj → Prop) (h0 : ∃ m env' L', Wk n0 env L env' L' ∧ I m env' L')
    (hr : ∀ m env L, I m env L → vc P n0 c env L (fun e env L => match e with
      | .normal => ∃ m' env' L', m' < m ∧ Wk n0 env L env' L' ∧ I m' env' L'
      | .exit i => Q (.exit i) env L
      | .ret => Q .ret env L)) : vc P n0 (.loop c) env L Q := by
  intro X hX
  have key : ∀ m env L env' L', Wk n0 env L env' L' → I m env' L' → X env L := by
    intro m
    induction m using Nat.strongRecOn with
    | _ m ih =>
      intro env L env' L' hw hI
      refine hX env L ⟨env', L', hw, vc_mono (hr m env' L' hI) (fun e env L h => ?_)⟩
      cases e with
      | normal =>
        obtain ⟨m', e2, L2, hlt, hw2, hI2⟩ := h
        exact ih m' hlt env L e2 L2 hw2 hI2
      | exit i => exact h
      | ret => exact h
  obtain ⟨m, e1, L1, hw, hI⟩ := h0
  exact key m env L e1 L1 hw hI

/-- A loop's rounds. -/
def LoopAt (P : Program) (c : Code) (Q : Exit → Act → World → Prop) (a : Act) (w : World) : Prop :=
  ∀ (b : Frame) (k : List Item) (cs : List Frame), ∃ e a' w', Q e a' w' ∧ Arrives P (lone (b.at a (.code c :: .inLoop c :: k)) cs w) b k cs e a' w'

theorem LoopAt.wp {P : Program} {c : Code} {Q : Exit → Act → World → Prop} {a : Act} {w : World} (h : LoopAt P c Q a w) : (Code.loop c).wp P Q a w := by
  intro b k cs
  obtain ⟨e, a', w', hq, harr⟩ := h b k cs
  exact ⟨e, a', w', hq, .of_steps (.one step_loop) harr⟩

theorem LoopAt.round {P : Program} {c : Code} {Q : Exit → Act → World → Prop} {a : Act} {w : World} (h : c.wp P (Exit.then (LoopAt P c Q) Q) a w) : LoopAt P c Q a w := by
  intro b k cs
  obtain ⟨e, a₁, w₁, hq, harr⟩ := h b (.inLoop c :: k) cs
  cases e with
  | normal =>
    obtain ⟨e₂, a₂, w₂, hq₂, harr₂⟩ := hq b k cs
    exact ⟨e₂, a₂, w₂, hq₂, .of_steps (Steps.trans harr (.one step_inLoop)) harr₂⟩
  | exit id => exact ⟨_, a₁, w₁, hq, .pass (x := .inLoop c) rfl (fun _ _ => .inl (by simp)) harr⟩
  | goto l => exact ⟨_, a₁, w₁, hq, .pass (x := .inLoop c) rfl (fun _ _ => .inl (by simp)) harr⟩
  | ret => exact ⟨_, a₁, w₁, hq, .pass (x := .inLoop c) rfl (fun _ _ => .inl (by simp)) harr⟩
  | panic ch => exact ⟨_, a₁, w₁, hq, .pass (x := .inLoop c) rfl (fun _ _ => .inl (by simp)) harr⟩
  | outgrown => exact ⟨_, a₁, w₁, hq, .pass (x := .inLoop c) rfl (fun _ _ => .inl (by simp)) harr⟩

def exitOf : PExit → Exit
  | .normal => .normal
  | .exit i => .exit i
  | .ret => .ret

/-- How code ends. -/
def Post (L0 : List PObj) (g0 : Gh) (w0 : World) (Q : PExit → List PV → List PObj → Prop) (e : Exit) (a : Act) (w : World) : Prop :=
  ∃ pe g env L, e = exitOf pe ∧ St L0 g0 w0 g env L a w ∧ Q pe env L

theorem vc_sound {P : Program} {ws : List Nat} {L0 : List PObj} {g0 : Gh} {w0 : World} : ∀ {c : Code} {pc : PCode} {env : List PV} {L : List PObj} {Q : PExit → List PV → List PObj → Prop} {g : Gh} {a : Act} {w : World}, P.follows .mixedOrders = true →
    resolveC P ws c = some pc → vc P L0.length pc env L Q → St L0 g0 w0 g env L a w → c.wp P (Post L0 g0 w0 Q) a w := by
  intro c
  induction c with
  | skip => intro pc env L Q g a w hm hr h hst; cases hr; exact wp_skip ⟨.normal, g, env, L, rfl, hst, h⟩
  | label l => intro pc env L Q g a w hm hr h hst; cases hr; exact wp_label ⟨.normal, g, env, L, rfl, hst, h⟩
  | region id ops draw =>
    intro pc env L Q g a w hm hr h hst
    cases draw with
    | true =>
      simp only [resolveC] at hr
      split at hr
      · rename_i hck
        simp only [Bool.and_eq_true] at hck
        simp only [Option.map_eq_some_iff] at hr
        obtain ⟨pl, hpl, rfl⟩ := hr
        split at h
        · obtain ⟨env1, L1, hw, h⟩ := h
          obtain ⟨g1, hst1⟩ := hw L0 g0 w0 g a w rfl hst
          exact dregK_sound hm hpl hck.1.1 hck.1.2 hck.2 h hst1 (fun env' L' g' a' w' hst' hk => ⟨.normal, g', env', L', rfl, hst', hk⟩)
        · exact dregK_sound hm hpl hck.1.1 hck.1.2 hck.2 h hst (fun env' L' g' a' w' hst' hk => ⟨.normal, g', env', L', rfl, hst', hk⟩)
      · cases hr
    | false =>
      simp only [resolveC, Option.map_eq_some_iff] at hr
      obtain ⟨pl, hpl, rfl⟩ := hr
      split at h
      · obtain ⟨env1, L1, hw, h⟩ := h
        obtain ⟨g1, hst1⟩ := hw L0 g0 w0 g a w rfl hst
        exact wp_region_list (regK_list hpl h hst1 (fun env' L' g' a' w' hst' hk => ⟨.normal, g', env', L', rfl, hst', hk⟩))
      · exact wp_region_list (regK_list hpl h hst (fun env' L' g' a' w' hst' hk => ⟨.normal, g', env', L', rfl, hst', hk⟩))
  | seq x y ihx ihy =>
    intro pc env L Q g a w hm hr h hst
    simp only [resolveC] at hr
    split at hr
    · rename_i px py hx hy
      cases hr
      refine wp_seq (Code.wp_mono (fun e a w hp => ?_) (ihx hm hx h hst))
      obtain ⟨pe, g', env', L', rfl, hst', hk⟩ := hp
      cases pe with
      | normal => exact ihy hm hy hk hst'
      | exit i => exact ⟨.exit i, g', env', L', rfl, hst', hk⟩
      | ret => exact ⟨.ret, g', env', L', rfl, hst', hk⟩
    · cases hr
  | cond cnd x y ihx ihy =>
    intro pc env L Q g a w hm hr h hst
    simp only [resolveC] at hr
    split at hr
    · rename_i px py hx hy
      cases hr
      simp only [vc] at h
      split at h
      · rename_i t ht
        have hb := hst.ra.eval cnd
        rw [ht] at hb
        have hb := rep_bool hb
        cases t with
        | true => exact wp_cond_true hb (ihx hm hx (by simpa using h) hst)
        | false => exact wp_cond_false hb (ihy hm hy (by simpa using h) hst)
      · exact h.elim
    · cases hr
  | block id c ih =>
    intro pc env L Q g a w hm hr h hst
    simp only [resolveC, Option.map_eq_some_iff] at hr
    obtain ⟨px, hx, rfl⟩ := hr
    refine wp_block (Code.wp_mono (fun e a w hp => ?_) (ih hm hx h hst))
    obtain ⟨pe, g', env', L', rfl, hst', hk⟩ := hp
    cases pe with
    | normal => exact ⟨.normal, g', env', L', rfl, hst', hk⟩
    | exit i =>
      simp only [exitOf, Exit.inBlock]
      simp only at hk
      by_cases hi : i = id
      · rw [if_pos hi] at hk ⊢; exact ⟨.normal, g', env', L', rfl, hst', hk⟩
      · rw [if_neg hi] at hk ⊢; exact ⟨.exit i, g', env', L', rfl, hst', hk⟩
    | ret => exact ⟨.ret, g', env', L', rfl, hst', hk⟩
  | loop c ih =>
    intro pc env L Q g a w hm hr h hst
    simp only [resolveC, Option.map_eq_some_iff] at hr
    obtain ⟨px, hx, rfl⟩ := hr
    refine LoopAt.wp (h (fun env L => ∀ g a w, St L0 g0 w0 g env L a w → LoopAt P c (Post L0 g0 w0 Q) a w) (fun env L ⟨env1, L1, hw, hv⟩ g a w hst => ?_) g a w hst)
    obtain ⟨g1, hst1⟩ := hw L0 g0 w0 g a w rfl hst
    refine LoopAt.round (Code.wp_mono (fun e a w hp => ?_) (ih hm hx hv hst1))
    obtain ⟨pe, g', env', L', rfl, hst', hk⟩ := hp
    cases pe with
    | normal => exact hk g' a w hst'
    | exit i => exact ⟨.exit i, g', env', L', rfl, hst', hk⟩
    | ret => exact ⟨.ret, g', env', L', rfl, hst', hk⟩
  | scope c ih =>
    intro pc env L Q g a w hm hr h hst
    simp only [resolveC] at hr
    refine wp_scope_straight (Code.wp_mono (fun e a w hp => ?_) (ih hm hr h hst))
    obtain ⟨pe, g', env', L', rfl, hst', hk⟩ := hp
    cases pe <;> exact ⟨_, g', env', L', rfl, hst', hk⟩
  | exit id => intro pc env L Q g a w hm hr h hst; cases hr; exact wp_exit ⟨.exit id, g, env, L, rfl, hst, h⟩
  | ret => intro pc env L Q g a w hm hr h hst; cases hr; exact wp_ret ⟨.ret, g, env, L, rfl, hst, h⟩
  | _ => intro pc env L Q g a w hm hr; cases hr

end Go.Fw
