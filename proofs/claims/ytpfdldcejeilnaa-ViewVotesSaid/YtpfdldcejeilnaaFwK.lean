import Derived.Test.YtpfdldcejeilnaaFwJ
set_option linter.unusedVariables false
set_option linter.unusedSimpArgs false
namespace Go.Fw
open Go

/-! ### What is known between two operations -/

def up1 (L : List PObj) (n : Nat) (ob : PObj) : List PObj := if n < L.length then L.set n ob else L ++ [ob]
def upL (L : List PObj) : List (Nat × PObj) → List PObj
  | [] => L
  | (n, ob) :: r => upL (up1 L n ob) r

def OkUpd (L : List PObj) : List (Nat × PObj) → Prop
  | [] => True
  | (n, ob) :: r => ((n < L.length ∧ Live (Lf L n) = true) ∨ n = L.length) ∧ (∀ m om, (m, om) ∈ r → m ≠ n) ∧ OkUpd (up1 L n ob) r

theorem up1_get {L : List PObj} {n : Nat} {ob : PObj} (h : n ≤ L.length) (m : Nat) : Lf (up1 L n ob) m = if m = n then ob else Lf L m := by
  unfold up1 Lf
  split
  · rename_i hn
    by_cases e : m = n
    · subst e; simp [hn]
    · rw [if_neg e, List.getElem?_set_ne (Ne.symm e)]
  · have : n = L.length := by omega
    subst this
    by_cases e : m = L.length
    · subst e; simp
    · rw [if_neg e]
      by_cases hlt : m < L.length
      · rw [List.getElem?_append_left hlt]
      · rw [List.getElem?_append_right (by omega), List.getElem?_eq_none (by simp; omega), List.getElem?_eq_none (by omega)]

theorem up1_len {L : List PObj} {n : Nat} {ob : PObj} : L.length ≤ (up1 L n ob).length := by
  unfold up1; split <;> simp
theorem upL_len : ∀ (upd : List (Nat × PObj)) (L : List PObj), L.length ≤ (upL L upd).length
  | [], L => Nat.le_refl _
  | (n, ob) :: r, L => Nat.le_trans up1_len (upL_len r _)

theorem OkUpd.le {L : List PObj} : ∀ {upd : List (Nat × PObj)}, OkUpd L upd → ∀ n ob, (n, ob) ∈ upd → n < (upL L upd).length
  | [], _, n, ob, h => by cases h
  | (m, om) :: r, h, n, ob, hm => by
    obtain ⟨h1, h2, h3⟩ := h
    rcases List.mem_cons.1 hm with e | hm
    · simp only [Prod.mk.injEq] at e
      obtain ⟨e1, e2⟩ := e
      subst e1; subst e2
      have : n < (up1 L n ob).length := by unfold up1; split <;> simp <;> omega
      exact Nat.lt_of_lt_of_le this (upL_len r _)
    · exact OkUpd.le h3 n ob hm

theorem upL_get : ∀ {upd : List (Nat × PObj)} {L : List PObj}, OkUpd L upd → (∀ n ob, (n, ob) ∈ upd → Lf (upL L upd) n = ob) ∧ ∀ m, (∀ ob, (m, ob) ∉ upd) → Lf (upL L upd) m = Lf L m
  | [], L, _ => ⟨fun _ _ h => (by cases h), fun _ _ => rfl⟩
  | (n, ob) :: r, L, h => by
    obtain ⟨h1, h2, h3⟩ := h
    have hn : n ≤ L.length := by omega
    obtain ⟨ih1, ih2⟩ := upL_get h3
    refine ⟨fun m om hm => ?_, fun m hm => ?_⟩
    · rcases List.mem_cons.1 hm with e | hm
      · cases e
        show Lf (upL (up1 L n ob) r) n = ob
        rw [ih2 n (fun o ho => h2 n o ho rfl), up1_get hn, if_pos rfl]
      · exact ih1 m om hm
    · show Lf (upL (up1 L n ob) r) m = _
      rw [ih2 m (fun o ho => hm o (List.mem_cons_of_mem _ ho)), up1_get hn, if_neg (fun e => hm ob (by rw [e]; simp))]

/-- Each name that is changed is a live one or new. -/
theorem OkUpd.live : ∀ {upd : List (Nat × PObj)} {L : List PObj}, OkUpd L upd → ∀ n ob, (n, ob) ∈ upd → (n < L.length ∧ Live (Lf L n) = true) ∨ L.length ≤ n
  | [], _, _, n, ob, h => by cases h
  | (m, om) :: r, L, h, n, ob, hm => by
    obtain ⟨h1, h2, h3⟩ := h
    rcases List.mem_cons.1 hm with e | hm
    · simp only [Prod.mk.injEq] at e
      obtain ⟨e1, e2⟩ := e
      subst e1; subst e2
      rcases h1 with h1 | h1
      · exact .inl h1
      · right; omega
    · have hmn := h2 n ob hm
      rcases OkUpd.live h3 n ob hm with ⟨a, b⟩ | a
      · by_cases hlt : n < L.length
        · left; refine ⟨hlt, ?_⟩
          rw [up1_get (by omega), if_neg hmn] at b; exact b
        · right; omega
      · right; exact Nat.le_trans up1_len a

/-- What is known within a function: of its frame, of memory, and of memory as it was when it was entered. -/
structure St (L0 : List PObj) (g0 : Gh) (w0 : World) (g : Gh) (env : List PV) (L : List PObj) (a : Act) (w : World) : Prop where
  ra : RelA g env a
  rh : RelH g (Lf L) w
  new : ∀ n, L.length ≤ n → g.at_ n = none
  os : w.os = w0.os
  tape : w.tape = w0.tape
  output : w.output = w0.output
  size : w0.heap.size ≤ w.heap.size
  block : ∀ b, b < w0.heap.size → (∀ n, Live (Lf L0 n) = true → g0.at_ n ≠ some b) → w.heap[b]? = w0.heap[b]?
  frle : ∀ b i v, g0.fr b i = some v → g.fr b i = some v
  len : L0.length ≤ L.length
  at0 : ∀ n, n < L0.length → g.at_ n = g0.at_ n ∧ ∀ b, g.at_ n = some b → g.sz n = g0.sz n
  frn : ∀ b i v, g.fr b i = some v → g0.fr b i = some v ∨ w0.heap.size ≤ b ∨ ∃ n, Live (Lf L0 n) = true ∧ g0.at_ n = some b
  own : ∀ n, Live (Lf L n) = true → ∀ b, g.at_ n = some b → w0.heap.size ≤ b ∨ ∃ m, Live (Lf L0 m) = true ∧ g0.at_ m = some b

def putE (env : List PV) : Option Nat → PV → List PV
  | some d, p => env.set d p
  | none, _ => env

theorem RelA.put {g g' : Gh} {env : List PV} {a : Act} (h : RelA g env a) (hg : Gle g g') {v : Value} {p : PV} (hv : Rep g' v p) (dst : Option Nat) : RelA g' (putE env dst p) (a.put dst v) := by
  cases dst with
  | none => exact ⟨h.size, fun t q hq => (h.rep t q hq).mono hg, h.defers⟩
  | some d =>
    refine ⟨by simp [Act.put, putE, h.size], fun t q hq => ?_, h.defers⟩
    simp only [putE] at hq
    simp only [Act.put]
    by_cases e : t = d
    · subst e
      have hlt : t < env.length := by
        have := (List.getElem?_eq_some_iff.1 hq).1; simpa using this
      rw [List.getElem?_set_self hlt] at hq
      cases hq
      have : t < a.tmps.size := by rw [h.size]; exact hlt
      simp [Array.getD, this]
      exact hv
    · rw [List.getElem?_set_ne (Ne.symm e)] at hq
      have := (h.rep t q hq).mono hg
      simp only [Array.getD_eq_getD_getElem?, Array.getElem?_setIfInBounds_ne (Ne.symm e)] at this ⊢
      exact this

theorem obj_lt {g : Gh} {w : World} {n b : Nat} {ob : PObj} (h : RelObj g w n ob) (hl : Live ob = true) (hb : g.at_ n = some b) : b < w.heap.size := by
  cases ob with
  | arr cs =>
    obtain ⟨c, e, h1, _⟩ := arr_block h hb
    exact (Array.getElem?_eq_some_iff.1 h1).1
  | froz cs => cases hl
  | mp es => exact h.elim
  | dead => cases hl

theorem RelObj.keep {g g' : Gh} {w w' : World} {n : Nat} {ob : PObj} (h : RelObj g w n ob) (hg : Gle g g') (hat : g'.at_ n = g.at_ n) (hblk : Live ob = true → ∀ b, g.at_ n = some b → w'.heap[b]? = w.heap[b]?)
    (hfr : Live ob = true → ∀ b, g.at_ n = some b → ∀ i, g.fr b i = none → g'.fr b i = none) : RelObj g' w' n ob := by
  cases ob with
  | arr cs =>
    rcases h with ⟨h1, h2⟩ | ⟨b, c, e, h1, h2, h3, h4, h5, h6, h7⟩
    · exact .inl ⟨h1, hat.trans h2⟩
    · exact .inr ⟨b, c, e, hat.trans h1, (hblk rfl b h1).trans h2, h3, h4.trans (hg.2 _ _ h1).2.symm, h5, fun i v p a b => (h6 i v p a b).mono hg, fun i => hfr rfl b h1 i (h7 i)⟩
  | froz cs =>
    obtain ⟨b, h1, h2⟩ := h
    exact ⟨b, hat.trans h1, h2.mono hg.1⟩
  | mp es => exact h
  | dead => trivial

/-- A step, and what is known behind it. -/
theorem RelH.step {g g' : Gh} {w w' : World} {L : Objs} {L' : Objs} {upd : List (Nat × PObj)} (h : RelH g L w) (hs : Stp L upd g g' w w') (h1 : ∀ n ob, (n, ob) ∈ upd → L' n = ob) (h2 : ∀ m, (∀ ob, (m, ob) ∉ upd) → L' m = L m) : RelH g' L' w' where
  fr := hs.frok
  obj := fun n => by
    by_cases hm : ∃ ob, (n, ob) ∈ upd
    · obtain ⟨ob, hm⟩ := hm
      rw [h1 n ob hm]; exact hs.obj n ob hm
    · have hm' : ∀ ob, (n, ob) ∉ upd := fun ob ho => hm ⟨ob, ho⟩
      rw [h2 n hm']
      refine (h.obj n).keep hs.le (hs.at_ n hm') (fun hl b hb => ?_) (fun hl b hb i hi => ?_)
      · refine hs.block b (obj_lt (h.obj n) hl hb) (fun m om hmo hlive e => ?_)
        have := h.inj m n b e hb hlive hl
        subst this; exact hm' om hmo
      · cases hf : g'.fr b i with
        | none => rfl
        | some v =>
          rcases hs.frn b i v hf with h0 | h0 | ⟨m, om, hmo, hlive, e⟩
          · rw [hi] at h0; cases h0
          · exact absurd (obj_lt (h.obj n) hl hb) (by omega)
          · have := h.inj m n b e hb hlive hl
            subst this; exact absurd hmo (hm' om)
  inj := fun n m b hn hm hln hlm => by
    have key : ∀ n m, g'.at_ n = some b → g'.at_ m = some b → Live (L' n) = true → Live (L' m) = true → (∃ ob, (n, ob) ∈ upd) → n = m := by
      intro n m hn hm hln hlm ⟨ob, hno⟩
      rw [h1 n ob hno] at hln
      by_cases hmo : ∃ om, (m, om) ∈ upd
      · obtain ⟨om, hmo⟩ := hmo
        rw [h1 m om hmo] at hlm
        exact hs.inj n ob m om b hno hmo hln hlm hn hm
      · have hm' : ∀ om, (m, om) ∉ upd := fun om ho => hmo ⟨om, ho⟩
        rw [h2 m hm'] at hlm
        rw [hs.at_ m hm'] at hm
        rcases hs.own n ob hno hln b hn with h0 | ⟨q, oq, hqo, hlq, hq⟩
        · exact absurd (obj_lt (h.obj m) hlm hm) (by omega)
        · have := h.inj q m b hq hm hlq hlm
          subst this; exact absurd hqo (hm' oq)
    by_cases hno : ∃ ob, (n, ob) ∈ upd
    · exact key n m hn hm hln hlm hno
    · by_cases hmo : ∃ om, (m, om) ∈ upd
      · exact (key m n hm hn hlm hln hmo).symm
      · have hn' : ∀ om, (n, om) ∉ upd := fun om ho => hno ⟨om, ho⟩
        have hm' : ∀ om, (m, om) ∉ upd := fun om ho => hmo ⟨om, ho⟩
        rw [h2 n hn'] at hln; rw [h2 m hm'] at hlm
        rw [hs.at_ n hn'] at hn; rw [hs.at_ m hm'] at hm
        exact h.inj n m b hn hm hln hlm

theorem St.step {L0 : List PObj} {g0 : Gh} {w0 : World} {g g' : Gh} {env env' : List PV} {L : List PObj} {a a' : Act} {w w' : World} {upd : List (Nat × PObj)} (h : St L0 g0 w0 g env L a w) (hu : OkUpd L upd)
    (hs : Stp (Lf L) upd g g' w w') (hra : RelA g' env' a') : St L0 g0 w0 g' env' (upL L upd) a' w' := by
  obtain ⟨u1, u2⟩ := upL_get hu
  have hlen := upL_len upd L
  have names : ∀ n ob, (n, ob) ∈ upd → n < (upL L upd).length := hu.le
  exact {
    ra := hra
    rh := h.rh.step hs u1 u2
    new := fun n hn => by
      have hm' : ∀ ob, (n, ob) ∉ upd := fun ob ho => by have := names n ob ho; omega
      rw [hs.at_ n hm']; exact h.new n (by omega)
    os := hs.os.trans h.os
    tape := hs.tape.trans h.tape
    output := hs.output.trans h.output
    size := Nat.le_trans h.size hs.size
    block := fun b hb hx => by
      rw [← h.block b hb hx]
      refine hs.block b (Nat.lt_of_lt_of_le hb h.size) (fun n ob hn hl e => ?_)
      rcases h.own n hl b e with h0 | ⟨m, hm, hmb⟩
      · omega
      · exact hx m hm hmb
    frle := fun b i v hv => hs.le.1 _ _ _ (h.frle b i v hv)
    len := Nat.le_trans h.len hlen
    at0 := fun n hn => by
      obtain ⟨e1, e2⟩ := h.at0 n hn
      have e3 : g'.at_ n = g.at_ n := by
        by_cases hm : ∃ ob, (n, ob) ∈ upd
        · obtain ⟨ob, hm⟩ := hm
          rcases hu.live n ob hm with ⟨_, hl⟩ | hl
          · exact hs.keep n hl
          · have := h.len; omega
        · exact hs.at_ n (fun ob ho => hm ⟨ob, ho⟩)
      exact ⟨e3.trans e1, fun b hb => by rw [e3] at hb; exact ((hs.le.2 n b hb).2).trans (e2 b hb)⟩
    frn := fun b i v hv => by
      rcases hs.frn b i v hv with h0 | h0 | ⟨n, ob, hno, hl, hb⟩
      · exact h.frn b i v h0
      · right; left; exact Nat.le_trans h.size h0
      · right; exact h.own n hl b hb
    own := fun n hl b hb => by
      by_cases hm : ∃ ob, (n, ob) ∈ upd
      · obtain ⟨ob, hm⟩ := hm
        rw [u1 n ob hm] at hl
        rcases hs.own n ob hm hl b hb with h0 | ⟨m, om, hmo, hlm, hmb⟩
        · left; exact Nat.le_trans h.size h0
        · exact h.own m hlm b hmb
      · have hm' : ∀ ob, (n, ob) ∉ upd := fun ob ho => hm ⟨ob, ho⟩
        rw [u2 n hm'] at hl; rw [hs.at_ n hm'] at hb
        exact h.own n hl b hb }

/-- What is known by the one is known by the other. -/
def Le (p q : PV) : Prop := ∀ g v, Rep g v p → Rep g v q

theorem Le.refl (p : PV) : Le p p := fun _ _ h => h
theorem Le.dead (p : PV) : Le p .dead := fun _ v _ => .dead v
theorem Le.fsl (es : List (List DV)) (t : Bool) : Le (.fsl es t) (.d (.sl es)) := fun g v h => by
  cases h with | fsl _ a n cap _ h1 h2 => exact .d h1
theorem Le.nilsl : Le .nilsl (.d (.sl [])) := fun g v h => by cases h; exact .d (.sl0 _ _ (fun _ => rfl))
theorem Le.zsl : Le .zsl (.d (.sl [])) := fun g v h => by cases h; exact .d (.sl0 _ _ (fun _ => rfl))
theorem Le.nilz : Le .nilsl .zsl := fun g v h => by cases h; exact .zsl _

def LeL : List PV → List PV → Prop
  | [], [] => True
  | p :: ps, q :: qs => Le p q ∧ LeL ps qs
  | _, _ => False

theorem LeL.get : ∀ {ps qs : List PV}, LeL ps qs → ps.length = qs.length ∧ ∀ (i : Nat) q, qs[i]? = some q → ∃ p, ps[i]? = some p ∧ Le p q
  | [], [], _ => ⟨rfl, fun i q h => by simp at h⟩
  | p :: ps, q :: qs, h => by
    obtain ⟨h1, h2⟩ := h
    obtain ⟨l, ih⟩ := LeL.get h2
    refine ⟨by simp [l], fun i q' hq => ?_⟩
    cases i with
    | zero => simp at hq; subst hq; exact ⟨p, by simp, h1⟩
    | succ i => simpa using ih i q' (by simpa using hq)
  | [], _ :: _, h => h.elim
  | _ :: _, [], h => h.elim

theorem LeL.refl : ∀ (ps : List PV), LeL ps ps
  | [] => trivial
  | p :: ps => ⟨Le.refl p, LeL.refl ps⟩


/-- An object of which less is known. -/
def LeObj : PObj → PObj → Prop
  | .arr cs, .arr cs' => LeL cs cs'
  | a, b => a = b

theorem LeObj.refl (a : PObj) : LeObj a a := by
  cases a with
  | arr cs => exact LeL.refl cs
  | _ => rfl

theorem LeObj.live {a b : PObj} (h : LeObj a b) : Live b = Live a := by
  cases a <;> cases b <;> first | rfl | (cases h; done) | (cases h; rfl)

theorem LeObj.rel {a b : PObj} (h : LeObj a b) {g : Gh} {w : World} {n : Nat} (r : RelObj g w n a) : RelObj g w n b := by
  cases a with
  | arr cs =>
    cases b with
    | arr cs' =>
      obtain ⟨hl, hg⟩ := LeL.get h
      rcases r with ⟨e1, e2⟩ | ⟨bk, c, e, h1, h2, h3, h4, h5, h6, h7⟩
      · subst e1
        refine .inl ⟨?_, e2⟩
        cases cs' with
        | nil => rfl
        | cons x xs => simp at hl
      · refine .inr ⟨bk, c, e, h1, h2, by omega, h4, fun i v hi hv => h5 i v (by omega) hv, fun i v p hv hp => ?_, h7⟩
        obtain ⟨q, hq, hle⟩ := hg i p hp
        exact hle _ _ (h6 i v q hv hq)
    | _ => cases h
  | _ => cases b <;> first | (cases h; exact r) | (cases h; done)

def LeUpd : List (Nat × PObj) → List (Nat × PObj) → Prop
  | [], [] => True
  | (n, a) :: r, (m, b) :: s => n = m ∧ LeObj a b ∧ LeUpd r s
  | _, _ => False

theorem LeUpd.refl : ∀ u, LeUpd u u
  | [] => trivial
  | (n, a) :: r => ⟨rfl, LeObj.refl a, LeUpd.refl r⟩

theorem LeUpd.back : ∀ {u u' : List (Nat × PObj)}, LeUpd u u' → ∀ n b, (n, b) ∈ u' → ∃ a, (n, a) ∈ u ∧ LeObj a b
  | [], [], _, n, b, h => by cases h
  | (m, a) :: r, (m', b) :: s, h, n, c, hc => by
    obtain ⟨rfl, h1, h2⟩ := h
    rcases List.mem_cons.1 hc with e | hc
    · cases e; exact ⟨a, by simp, h1⟩
    · obtain ⟨x, hx, hl⟩ := LeUpd.back h2 n c hc
      exact ⟨x, by simp [hx], hl⟩
  | [], _ :: _, h, _, _, _ => h.elim
  | _ :: _, [], h, _, _, _ => h.elim

theorem LeUpd.forth : ∀ {u u' : List (Nat × PObj)}, LeUpd u u' → ∀ n a, (n, a) ∈ u → ∃ b, (n, b) ∈ u' ∧ LeObj a b
  | [], [], _, n, b, h => by cases h
  | (m, a) :: r, (m', b) :: s, h, n, c, hc => by
    obtain ⟨rfl, h1, h2⟩ := h
    rcases List.mem_cons.1 hc with e | hc
    · cases e; exact ⟨b, by simp, h1⟩
    · obtain ⟨x, hx, hl⟩ := LeUpd.forth h2 n c hc
      exact ⟨x, by simp [hx], hl⟩
  | [], _ :: _, h, _, _, _ => h.elim
  | _ :: _, [], h, _, _, _ => h.elim

structure LeOut (o o' : Out) : Prop where
  pv : Le o.pv o'.pv
  rd : o'.rd = o.rd
  upd : LeUpd o.upd o'.upd

theorem LeOut.refl (o : Out) : LeOut o o := ⟨Le.refl _, rfl, LeUpd.refl _⟩

theorem Stp.weak {L : Objs} {upd upd' : List (Nat × PObj)} {g g' : Gh} {w w' : World} (h : LeUpd upd upd') (s : Stp L upd g g' w w') : Stp L upd' g g' w w' where
  os := s.os
  tape := s.tape
  output := s.output
  size := s.size
  block := fun b hb hn => s.block b hb (fun n ob ho hl => by
    obtain ⟨x, hx, _⟩ := h.forth n ob ho
    exact hn n x hx hl)
  le := s.le
  at_ := fun n hn => s.at_ n (fun ob ho => by
    obtain ⟨x, hx, _⟩ := h.forth n ob ho
    exact hn x hx)
  keep := s.keep
  frn := fun b i v hv => by
    rcases s.frn b i v hv with h0 | h0 | ⟨n, ob, ho, hl, hb⟩
    · exact .inl h0
    · exact .inr (.inl h0)
    · obtain ⟨x, hx, _⟩ := h.forth n ob ho
      exact .inr (.inr ⟨n, x, hx, hl, hb⟩)
  frok := s.frok
  obj := fun n ob ho => by
    obtain ⟨x, hx, hl⟩ := h.back n ob ho
    exact hl.rel (s.obj n x hx)
  own := fun n ob ho hl b hb => by
    obtain ⟨x, hx, hle⟩ := h.back n ob ho
    rw [hle.live] at hl
    rcases s.own n x hx hl b hb with h0 | ⟨m, om, hm, hlm, hmb⟩
    · exact .inl h0
    · obtain ⟨y, hy, _⟩ := h.forth m om hm
      exact .inr ⟨m, y, hy, hlm, hmb⟩
  inj := fun n ob m om b hn hm hl1 hl2 h1 h2 => by
    obtain ⟨x, hx, hle⟩ := h.back n ob hn
    obtain ⟨y, hy, hle'⟩ := h.back m om hm
    rw [hle.live] at hl1
    rw [hle'.live] at hl2
    exact s.inj n x m y b hx hy hl1 hl2 h1 h2

theorem OkUpd.weak : ∀ {u u' : List (Nat × PObj)} {L L' : List PObj}, LeUpd u u' → L.length = L'.length → (∀ n, Live (Lf L n) = Live (Lf L' n)) → OkUpd L u → OkUpd L' u'
  | [], [], L, L', _, _, _, _ => trivial
  | (n, a) :: r, (m, b) :: s, L, L', h, hlen, hlive, hok => by
    obtain ⟨rfl, h1, h2⟩ := h
    obtain ⟨k1, k2, k3⟩ := hok
    have hn : n ≤ L.length := by omega
    refine ⟨by rw [← hlen, ← hlive]; exact k1, fun x ox hx => ?_, OkUpd.weak h2 (by unfold up1; rw [hlen]; split <;> simp [hlen]) (fun x => ?_) k3⟩
    · obtain ⟨y, hy, _⟩ := h2.back x ox hx
      exact k2 x y hy
    · rw [up1_get hn, up1_get (by omega)]
      split
      · exact h1.live.symm
      · exact hlive x
  | [], _ :: _, _, _, h, _, _, _ => h.elim
  | _ :: _, [], _, _, h, _, _, _ => h.elim

end Go.Fw
