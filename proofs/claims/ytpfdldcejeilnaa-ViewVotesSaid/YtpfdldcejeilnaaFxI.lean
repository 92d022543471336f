import Derived.Test.YtpfdldcejeilnaaFxH
set_option linter.unusedVariables false
set_option linter.unusedSimpArgs false
namespace Go.Fw
open Go

/-! ### What a law is handed, typed -/

mutual
def CT.wf : (c : CT) → c.T → Prop
  | .int k, n => k.min ≤ n ∧ n ≤ k.max
  | .bool, _ => True
  | .str, s => s.size ≤ maxLen
  | .sl e, xs => xs.length ≤ maxLen ∧ ∀ x ∈ xs, EL.wf e x
def EL.wf : (e : EL) → e.T → Prop
  | .one c, x => CT.wf c x
  | .cons c e, x => CT.wf c x.1 ∧ EL.wf e x.2
end
def toEL : List CT → Option EL
  | [] => none
  | [c] => some (.one c)
  | c :: cs => (toEL cs).map (.cons c)
def catO : List (Option (List CT)) → Option (List CT)
  | [] => some []
  | some a :: r => (catO r).map (a ++ ·)
  | none :: _ => none
def ctsOf (P : Program) : Nat → TypeId → Option (List CT)
  | 0, _ => none
  | n + 1, t =>
    match P.underlying t with
    | some .bool => some [.bool]
    | some (.int k) => some [.int k]
    | some .string => some [.str]
    | some (.slice e) => (ctsOf P n e).bind fun cs => (toEL cs).map fun el => [.sl el]
    | some (.struct fs) => catO ((fs.toList.map (·.type)).map (ctsOf P n))
    | some (.array m e) => catO ((List.replicate m e).map (ctsOf P n))
    | _ => none

def WFL : List CT → List DV → Prop
  | [], [] => True
  | c :: cs, d :: ds => (∃ x, d = CT.dv c x ∧ CT.wf c x) ∧ WFL cs ds
  | _, _ => False
theorem WFL.append : ∀ {a b : List CT} {x y : List DV}, WFL a x → WFL b y → WFL (a ++ b) (x ++ y)
  | [], b, [], y, _, h => h
  | c :: a, b, d :: x, y, h1, h2 => ⟨h1.1, WFL.append h1.2 h2⟩
  | [], _, _ :: _, _, h, _ => h.elim
  | _ :: _, _, [], _, h, _ => h.elim
theorem WFL.el : ∀ {cs : List CT} {e : EL} {xs : List DV}, toEL cs = some e → WFL cs xs → ∃ x : e.T, xs = EL.dv e x ∧ EL.wf e x
  | [], e, xs, h, _ => by simp [toEL] at h
  | [c], e, [], h, hw => hw.elim
  | [c], e, [d], h, hw => by
    simp only [toEL] at h; cases h
    obtain ⟨⟨x, h1, h2⟩, -⟩ := hw
    exact ⟨x, by rw [h1]; rfl, h2⟩
  | [c], e, _ :: _ :: _, h, hw => hw.2.elim
  | c :: c' :: cs, e, [], h, hw => hw.elim
  | c :: c' :: cs, e, d :: ds, h, hw => by
    simp only [toEL, Option.map_eq_some_iff] at h
    obtain ⟨e', h1, rfl⟩ := h
    obtain ⟨⟨x, h2, h3⟩, hw2⟩ := hw
    obtain ⟨y, h4, h5⟩ := WFL.el (cs := c' :: cs) h1 hw2
    exact ⟨(x, y), by rw [h2, h4]; rfl, h3, h5⟩

theorem hasT_wf {P : Program} {n : Nat} (ih : ∀ t xs cs, Has P n t xs → ctsOf P n t = some cs → WFL cs xs) : ∀ (ts : List TypeId) (xs : List DV) (cs : List CT), HasT P (Has P n) ts xs → catO (ts.map (ctsOf P n)) = some cs → WFL cs xs
  | [], xs, cs, h, hc => by
    simp only [List.map_nil, catO] at hc; cases hc
    have : xs = [] := h
    subst this; trivial
  | t :: ts, xs, cs, h, hc => by
    obtain ⟨x, r, rfl, _, h1, h2⟩ := h
    simp only [List.map_cons] at hc
    cases hq : ctsOf P n t with
    | none => rw [hq] at hc; simp [catO] at hc
    | some a =>
      rw [hq] at hc
      simp only [catO, Option.map_eq_some_iff] at hc
      obtain ⟨b, hb, rfl⟩ := hc
      exact (ih t x a h1 hq).append (hasT_wf ih ts r b h2 hb)
theorem has_wf {P : Program} : ∀ (n : Nat) (t : TypeId) (xs : List DV) (cs : List CT), Has P n t xs → ctsOf P n t = some cs → WFL cs xs
  | 0, t, xs, cs, h, _ => h.elim
  | n + 1, t, xs, cs, h, hc => by
    simp only [Has] at h
    simp only [ctsOf] at hc
    cases hu : P.underlying t with
    | none => rw [hu] at hc; cases hc
    | some u =>
      rw [hu] at h hc
      cases u with
      | bool =>
        simp only at h hc; cases hc
        obtain ⟨b, rfl⟩ := h
        exact ⟨⟨b, rfl, trivial⟩, trivial⟩
      | int k =>
        simp only at h hc; cases hc
        obtain ⟨m, rfl, h1, h2⟩ := h
        exact ⟨⟨m, rfl, h1, h2⟩, trivial⟩
      | string =>
        simp only at h hc; cases hc
        obtain ⟨m, rfl, h1⟩ := h
        exact ⟨⟨m, rfl, h1⟩, trivial⟩
      | slice e =>
        simp only [Option.bind_eq_some_iff, Option.map_eq_some_iff] at h hc
        obtain ⟨es, rfl, h1, h2⟩ := h
        obtain ⟨ds, hd, el, hel, rfl⟩ := hc
        have key : ∀ es : List (List DV), (∀ x ∈ es, Has P n e x) → ∃ ys : List el.T, es = ys.map (fun x => EL.dv el x) ∧ ∀ y ∈ ys, EL.wf el y := by
          intro es
          induction es with
          | nil => intro _; exact ⟨[], rfl, by simp⟩
          | cons x es ih =>
            intro hx
            obtain ⟨ys, e1, e2⟩ := ih (fun z hz => hx z (by simp [hz]))
            obtain ⟨y, e3, e4⟩ := WFL.el hel (has_wf n e x ds (hx x (by simp)) hd)
            exact ⟨y :: ys, by rw [e1, e3]; rfl, fun z hz => by
              rcases List.mem_cons.1 hz with rfl | hz
              · exact e4
              · exact e2 z hz⟩
        obtain ⟨ys, e1, e2⟩ := key es (fun x hx => (h2 x hx).2)
        refine ⟨⟨ys, ?_, ?_, e2⟩, trivial⟩
        · rw [e1]; rfl
        · rw [e1] at h1; simpa using h1
      | struct fs => exact hasT_wf (has_wf n) _ xs cs h hc
      | array m e => exact hasT_wf (has_wf n) _ xs cs h hc
      | _ => cases hc

/-- Is this type handed over cell by cell? -/
def aggB (P : Program) (t : TypeId) : Bool :=
  match P.underlying t with
  | some (.struct _) | some (.array _ _) => true
  | _ => false
theorem arg_cell {P : Program} {n : Nat} {t : TypeId} {xs : List DV} {c : CT} (h : Has P n t xs) (hc : ctsOf P n t = some [c]) (ha : aggB P t = false) : ∃ x, argPV P t xs = er (CT.tv c x) ∧ CT.wf c x := by
  have := has_wf n t xs [c] h hc
  rcases xs with _ | ⟨d, _ | ⟨d', r⟩⟩
  · exact this.elim
  · obtain ⟨⟨x, h1, h2⟩, -⟩ := this
    refine ⟨x, ?_, h2⟩
    rw [er_ctv, ← h1]
    unfold argPV
    unfold aggB at ha
    split
    · rename_i hu; rw [hu] at ha; cases ha
    · rename_i hu; rw [hu] at ha; cases ha
    · rfl
  · exact this.2.elim
theorem arg_agg {P : Program} {n : Nat} {t : TypeId} {xs : List DV} {cs : List CT} {e : EL} (h : Has P n t xs) (hc : ctsOf P n t = some cs) (he : toEL cs = some e) (ha : aggB P t = true) : ∃ x : e.T, argPV P t xs = er (.agg (EL.tv e x)) ∧ EL.wf e x := by
  obtain ⟨x, h1, h2⟩ := WFL.el he (has_wf n t xs cs h hc)
  refine ⟨x, ?_, h2⟩
  simp only [er, er_etv, ← h1]
  unfold argPV
  unfold aggB at ha
  split
  · rfl
  · rfl
  · rename_i h1 h2
    split at ha
    · rename_i hu; exact absurd hu (h1 _)
    · rename_i hu; exact absurd hu (h2 _ _)
    · cases ha
theorem hasArgs_cons {P : Program} {n : Nat} {t : TypeId} {ts : List TypeId} {pvs : List PV} (h : HasArgs P n (t :: ts) pvs) : ∃ xs r, pvs = argPV P t xs :: r ∧ Has P n t xs ∧ HasArgs P n ts r := h
theorem hasArgs_nil {P : Program} {n : Nat} {pvs : List PV} (h : HasArgs P n [] pvs) : pvs = [] := h

/-- A law that answers true. -/
theorem law_ac {P : Program} {f : FuncId} {A0 : List TV} {enc : Bool → TV} {obj : Bool → List TO} (h : ACT P f A0 [] (RetR enc obj (fun b => b = true))) (he : er (enc true) = .d (.bool true)) : AC P f (erL A0) [] (fun pv _ => pv = .d (.bool true)) :=
  AC.mono h (fun pv L ⟨tv, tL, h1, h2, r, e1, e2, e3⟩ => by subst e3; rw [h1, e1, he])

end Go.Fw
