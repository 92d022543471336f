import Derived.Test.YtpfdldcejeilnaaFwX
import Derived.Carry
import Derived.ChangeOld
import Derived.SizedLaws
set_option linter.unusedVariables false
set_option linter.unusedSimpArgs false
namespace Go.Fw
open Go Go.RowKit

/-! ### A law that answers true -/

def cellPV : List DV → PV
  | [x] => .d x
  | _ => .dead

def argPV (P : Program) (t : TypeId) (xs : List DV) : PV :=
  match P.underlying t with
  | some (.struct _) | some (.array _ _) => .agg (xs.map .d)
  | _ => cellPV xs

def HasArgs (P : Program) (n : Nat) : List TypeId → List PV → Prop
  | [], ps => ps = []
  | t :: ts, ps => ∃ xs r, ps = argPV P t xs :: r ∧ Has P n t xs ∧ HasArgs P n ts r

section
variable {H : Type} {enc : TypeId × Value → H} {P : Program} {w : World} {base : Nat} {spare : Nat → Bool} {held : Bool}

theorem rep_arg {g : Gh} (hfr : ∀ a v, w.cell? a = some v → a.spot = none → g.fr a.block a.off = some v) {n : Nat} {t : TypeId} {v : Value} {d : DataW H} {ps : List MemPlace} {r : Reach} {b0 : Nat} (hs : Sup P n t = true) (hv : Value.okWide P w r b0 t v) (hd : DataW.Trod enc P w base spare held t v d ps) :
    ∃ xs, Has P n t xs ∧ Rep g v (argPV P t xs) := by
  obtain ⟨k, hk⟩ := hd
  have hlen : v.cells.toList.length = P.cellsOf t := by
    cases n with
    | zero => cases hs
    | succ n =>
      unfold Value.okWide at hv
      simp only [Sup] at hs
      cases hu : P.underlying t with
      | none => rw [hu] at hs; cases hs
      | some u =>
        rw [hu] at hs hv
        cases u <;> simp only [Bool.and_eq_true, beq_iff_eq] at hs <;> first
          | (cases hs; done)
          | (simp at hs; done)
          | (obtain ⟨cs, rfl, hc, _⟩ := hv; simpa [Value.cells] using hc)
          | (simp only [Cell.okWide, hu] at hv
             first
             | (cases v <;> simp [Cell.ok, hu] at hv <;> simp [Value.cells, hs])
             | (cases v <;> simp [Cell.ok, hu] at hv <;> simp [Value.cells, hs.1.1]))
  obtain ⟨xs, r1, r2⟩ := repD_of_trod (fr := g.fr) hfr n k t _ _ hs hk hlen
  refine ⟨xs, r2, ?_⟩
  obtain ⟨hl, hget⟩ := r1.get
  have hagg : ∀ cs : Array Value, v = .agg cs → Rep g v (.agg (xs.map .d)) := by
    intro cs hc
    subst hc
    obtain ⟨l⟩ := cs
    simp only [Value.cells] at hl hget
    refine .agg l _ (by simpa using hl) (fun i u hu => ?_) (fun i u c hu hc => ?_)
    · have hi : i < xs.length := by rw [← hl]; exact (List.getElem?_eq_some_iff.1 hu).1
      obtain ⟨u', hu', hr⟩ := hget i _ (List.getElem?_eq_getElem hi)
      rw [hu] at hu'; cases hu'
      exact hr.one
    · simp only [List.getElem?_map, Option.map_eq_some_iff] at hc
      obtain ⟨x, hx, rfl⟩ := hc
      obtain ⟨u', hu', hr⟩ := hget i x hx
      rw [hu] at hu'; cases hu'
      exact .d hr
  have hcell : (∀ cs, v ≠ .agg cs) → Rep g v (cellPV xs) := by
    intro hne
    have hc : v.cells.toList = [v] := by cases v <;> first | rfl | exact absurd rfl (hne _)
    rcases xs with _ | ⟨x, _ | ⟨y, r⟩⟩
    · exact .dead _
    · obtain ⟨u, hu, hr⟩ := hget 0 x rfl
      rw [hc] at hu
      simp at hu; subst hu; exact .d hr
    · exact .dead _
  unfold argPV
  unfold Value.okWide at hv
  split
  · rename_i hu
    rw [hu] at hv
    obtain ⟨cs, hc, _⟩ := hv
    exact hagg cs hc
  · rename_i hu
    rw [hu] at hv
    obtain ⟨cs, hc, _⟩ := hv
    exact hagg cs hc
  · rename_i h1 h2
    refine hcell (fun cs hc => ?_)
    subst hc
    split at hv
    · rename_i fs hu; exact h1 fs hu
    · rename_i m e hu; exact h2 m e hu
    · unfold Cell.okWide at hv
      split at hv <;> try (simp_all; done)
      unfold Cell.ok at hv
      split at hv <;> simp_all

theorem rep_args {g : Gh} (hfr : ∀ a v, w.cell? a = some v → a.spot = none → g.fr a.block a.off = some v) {n : Nat} {r : Reach} {b0 : Nat} : ∀ {ts : List TypeId} {vs : List Value} {ds : List (DataW H)} {ps : List MemPlace}, (∀ t ∈ ts, Sup P n t = true) →
    (∀ (j : Nat) t v, ts[j]? = some t → vs[j]? = some v → Value.okWide P w r b0 t v) → DataW.TrodAll enc P w base spare held ts vs ds ps →
    ∃ pvs, HasArgs P n ts pvs ∧ vs.length = pvs.length ∧ ∀ (i : Nat) v p, vs[i]? = some v → pvs[i]? = some p → Rep g v p
  | [], [], [], ps, _, _, _ => ⟨[], rfl, rfl, by simp⟩
  | t :: ts, v :: vs, d :: ds, ps, hs, hv, h => by
    obtain ⟨p, q, h1, h2, rfl⟩ := h
    obtain ⟨xs, x1, x2⟩ := rep_arg hfr (hs t (by simp)) (hv 0 t v (by simp) (by simp)) h1
    obtain ⟨pvs, y1, y2, y3⟩ := rep_args hfr (fun u hu => hs u (by simp [hu])) (fun j u z hu hz => hv (j + 1) u z (by simpa using hu) (by simpa using hz)) h2
    refine ⟨argPV P t xs :: pvs, ⟨xs, pvs, rfl, x1, y1⟩, by simp [y2], fun i u z hu hz => ?_⟩
    cases i with
    | zero => simp at hu hz; subst hu; subst hz; exact x2
    | succ i => exact y3 i u z (by simpa using hu) (by simpa using hz)
  | [], _ :: _, _, _, _, _, h => h.elim
  | [], [], _ :: _, _, _, _, h => h.elim
  | _ :: _, [], _, _, _, _, h => h.elim
  | _ :: _, _ :: _, [], _, _, _, h => h.elim

theorem trodAll_below {W W' : World} (hl : laidOutB P = true) (hb : Below W.heap.size W W') : ∀ {ts : List TypeId} {vs : List Value} {ds : List (DataW H)} {ps : List MemPlace}, (∀ t ∈ ts, P.readableRec t = true ∧ t < P.types.size) → (∀ x ∈ ps, x.block < W.heap.size) →
    DataW.TrodAll enc P W 0 (fun _ => true) true ts vs ds ps → DataW.TrodAll enc P W' 0 (fun b => decide (b < W.heap.size)) true ts vs ds ps
  | [], [], [], ps, _, _, h => h
  | t :: ts, v :: vs, d :: ds, ps, hs, hlt, h => by
    obtain ⟨p, q, h1, h2, rfl⟩ := h
    obtain ⟨a, b⟩ := hs t (by simp)
    exact ⟨p, q, Below.trod hl a b h1 hb (fun x hx => hlt x (by simp [hx])), trodAll_below hl hb (fun u hu => hs u (by simp [hu])) (fun x hx => hlt x (by simp [hx])) h2, rfl⟩
  | [], _ :: _, _, _, _, _, h => h.elim
  | [], [], _ :: _, _, _, _, h => h.elim
  | _ :: _, [], _, _, _, _, h => h.elim
  | _ :: _, _ :: _, [], _, _, _, h => h.elim

/-- A law's function, lent nothing, that answers true. -/
theorem calls_true {f : FuncId} {fn : Func} {s : ChangeSpec} {rt : TypeId} {ts : List TypeId} {apart fresh handsOn : Bool} {gs ds : List (DataW H)} {before : List MemPlace} (n : Nat) (hl : laidOutB P = true) (hp : fn.params.toList = ts)
    (hs : ∀ t ∈ ts, Sup P n t = true ∧ P.readableRec t = true ∧ t < P.types.size) (hr : fn.resultTypes = #[rt]) (hb : P.underlying rt = some .bool) (hvars : s.vars = []) (hfn : ∀ ds : List (DataW H), ds.length = ts.length → s.fn H ds = { results := [.lit (.bool true)], args := ds })
    (hAC : ∀ pvs, HasArgs P n ts pvs → AC P f pvs [] (fun pv _ => pv = .d (.bool true))) {W : World} {b0 : Nat} {args : Array Value} (hval : ∀ (j : Nat) t v, fn.params[j]? = some t → args[j]? = some v → Value.okWide P W .any b0 t v)
    (hW : DataW.Whole enc P fn.params.toList s.vars apart W args.toList ds gs before) :
    Calls P f args W fun e W' => ∃ v, e = .returned v ∧ s.post enc P fn apart fresh handsOn false W args v W' := by
  have hW0 := hW
  obtain ⟨p, q, hA, hV, rfl, hfz, hnd⟩ := hW
  rw [hp] at hA
  let g : Gh := { fr := fun b i => W.cell? ⟨b, i, none⟩, at_ := fun _ => none, sz := fun _ => 0 }
  obtain ⟨pvs, h1, h2, h3⟩ := rep_args (w := W) (g := g) (fun a v h hsp => by
    obtain ⟨b, o, sp⟩ := a
    simp only at hsp; subst hsp; exact h) (fun t ht => (hs t ht).1) (fun j t v ht hv => hval j t v (by rw [← hp] at ht; simpa using ht) (by simpa using hv)) hA
  have hac := (hAC pvs h1).2 g W args.toList h2 h3 { fr := fun _ _ _ h => h, obj := fun o => by simp [Lf]; trivial, inj := fun o o' b h _ _ _ => by cases h } (fun _ _ => rfl)
  rw [Array.toArray_toList] at hac
  refine hac.mono fun e W' ⟨v, g', pv, L, env, a, he, hrep, hst, hpv⟩ => ?_
  subst hpv
  have hv := rep_bool hrep
  subst hv
  have bel : Below W.heap.size W W' := ⟨hst.os, hst.tape, hst.output, hst.size, fun k hk => hst.block k hk (fun n hl => by simp [Lf, Live] at hl)⟩
  have hg : gs = [] ∧ q = [] := by
    rw [hvars] at hV
    cases gs with
    | nil => exact ⟨rfl, hV⟩
    | cons x xs => exact hV.elim
  obtain ⟨rfl, rfl⟩ := hg
  have hlen : ds.length = ts.length := by
    have : ∀ {ts : List TypeId} {vs : List Value} {ds : List (DataW H)} {ps : List MemPlace}, DataW.TrodAll enc P W 0 (fun _ => true) true ts vs ds ps → ds.length = ts.length := by
      intro ts
      induction ts with
      | nil => intro vs ds ps h; cases vs <;> cases ds <;> first | rfl | exact h.elim
      | cons t ts ih =>
        intro vs ds ps h
        cases vs <;> cases ds <;> first | exact h.elim | skip
        obtain ⟨_, _, _, h2, _⟩ := h
        simp [ih h2]
    exact this hA
  refine ⟨_, he, ds, [], p ++ [], [], p, [], hW0, ?_, ?_, ?_, bel.frame _, fun h => by cases h⟩
  · rw [List.append_nil, hfn ds hlen, hr]
    exact ⟨[], [], ⟨1, by simp [DataW.trod, Value.cells, hb]⟩, rfl, rfl⟩
  · rw [List.append_nil, hfn ds hlen, hp]
    exact trodAll_below hl bel (fun t ht => (hs t ht).2) (fun x hx => hW0.lt x (by simp [hx])) hA
  · rw [List.append_nil, hfn ds hlen, hvars]
    rfl
end

end Go.Fw
