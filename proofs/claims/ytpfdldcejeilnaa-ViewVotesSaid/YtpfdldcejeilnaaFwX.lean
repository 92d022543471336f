import Derived.Test.YtpfdldcejeilnaaFwW
import Derived.ChangeArms
import Derived.DataReads
set_option linter.unusedVariables false
set_option linter.unusedSimpArgs false
namespace Go.Fw
open Go

/-! ### What a law is handed, as data -/

def RepDL (fr : Nat → Nat → Option Value) : List Value → List DV → Prop
  | [], [] => True
  | v :: vs, x :: xs => RepD fr v x ∧ RepDL fr vs xs
  | _, _ => False

theorem RepDL.get {fr : Nat → Nat → Option Value} : ∀ {vs : List Value} {xs : List DV}, RepDL fr vs xs → vs.length = xs.length ∧ ∀ (i : Nat) x, xs[i]? = some x → ∃ v, vs[i]? = some v ∧ RepD fr v x
  | [], [], _ => ⟨rfl, fun i x h => by simp at h⟩
  | v :: vs, x :: xs, h => by
    obtain ⟨h1, h2⟩ := h
    obtain ⟨l, ih⟩ := RepDL.get h2
    refine ⟨by simp [l], fun i y hy => ?_⟩
    cases i with
    | zero => simp at hy; subst hy; exact ⟨v, by simp, h1⟩
    | succ i => simpa using ih i y (by simpa using hy)
  | [], _ :: _, h => h.elim
  | _ :: _, [], h => h.elim

theorem RepDL.append {fr : Nat → Nat → Option Value} : ∀ {vs : List Value} {xs : List DV} {us : List Value} {ys : List DV}, RepDL fr vs xs → RepDL fr us ys → RepDL fr (vs ++ us) (xs ++ ys)
  | [], [], us, ys, _, h => h
  | v :: vs, x :: xs, us, ys, h, h' => ⟨h.1, RepDL.append h.2 h'⟩
  | [], _ :: _, _, _, h, _ => h.elim
  | _ :: _, [], _, _, h, _ => h.elim

def HasT (P : Program) (h : TypeId → List DV → Prop) : List TypeId → List DV → Prop
  | [], xs => xs = []
  | t :: ts, xs => ∃ x r, xs = x ++ r ∧ x.length = P.cellsOf t ∧ h t x ∧ HasT P h ts r

/-- Data of a type. -/
def Has (P : Program) : Nat → TypeId → List DV → Prop
  | 0, _, _ => False
  | n + 1, t, xs =>
    match P.underlying t with
    | some .bool => ∃ b, xs = [.bool b]
    | some (.int k) => ∃ m, xs = [.int k m] ∧ k.min ≤ m ∧ m ≤ k.max
    | some .string => ∃ s, xs = [.str s] ∧ s.size ≤ maxLen
    | some (.slice e) => ∃ es, xs = [.sl es] ∧ es.length ≤ maxLen ∧ ∀ x ∈ es, x.length = P.cellsOf e ∧ Has P n e x
    | some (.struct fs) => HasT P (Has P n) (fs.toList.map (·.type)) xs
    | some (.array m e) => HasT P (Has P n) (List.replicate m e) xs
    | _ => False

def sumOf (P : Program) (ts : List TypeId) : Nat := (ts.map P.cellsOf).sum

/-- Types of which all data is plain, to this depth. -/
def Sup (P : Program) : Nat → TypeId → Bool
  | 0, _ => false
  | n + 1, t =>
    match P.underlying t with
    | some .bool | some (.int _) | some .string => P.cellsOf t == 1
    | some (.slice e) => P.cellsOf t == 1 && decide (1 ≤ P.cellsOf e) && Sup P n e
    | some (.struct fs) => (List.range fs.size).all (fun i => ((fs[i]?).map fun f => f.offset == sumOf P ((fs.toList.map (·.type)).take i)).getD true) && (P.cellsOf t == sumOf P (fs.toList.map (·.type))) && fs.toList.all fun f => Sup P n f.type
    | some (.array m e) => (P.cellsOf t == sumOf P (List.replicate m e)) && Sup P n e
    | _ => false

section
variable {H : Type} {enc : TypeId × Value → H} {P : Program} {w : World} {base : Nat} {spare : Nat → Bool} {held : Bool} {fr : Nat → Nat → Option Value}

theorem rep_segs {n k : Nat} (ih : ∀ t cs x, Sup P n t = true → DataW.trod enc P w base spare held k t cs = some x → cs.length = P.cellsOf t → ∃ xs, RepDL fr cs xs ∧ Has P n t xs) : ∀ (ts : List TypeId) (cs : List Value), (∀ t ∈ ts, Sup P n t = true) → cs.length = sumOf P ts →
    (∀ j t, ts[j]? = some t → ∃ x, DataW.trod enc P w base spare held k t ((cs.drop (sumOf P (ts.take j))).take (P.cellsOf t)) = some x) → ∃ xs, RepDL fr cs xs ∧ HasT P (Has P n) ts xs
  | [], cs, _, hl, _ => by
    have : cs = [] := List.length_eq_zero_iff.1 (by simpa [sumOf] using hl)
    subst this
    exact ⟨[], trivial, rfl⟩
  | t :: ts, cs, hs, hl, h => by
    have hl' : cs.length = P.cellsOf t + sumOf P ts := by rw [hl]; simp [sumOf]
    obtain ⟨x, hx⟩ := h 0 t (by simp)
    simp only [List.take_zero] at hx
    have e0 : sumOf P [] = 0 := rfl
    rw [e0, List.drop_zero] at hx
    have hlen : (cs.take (P.cellsOf t)).length = P.cellsOf t := by rw [List.length_take]; omega
    obtain ⟨xs, r1, r2⟩ := ih t _ x (hs t (by simp)) hx hlen
    obtain ⟨ys, s1, s2⟩ := rep_segs ih ts (cs.drop (P.cellsOf t)) (fun u hu => hs u (by simp [hu])) (by rw [List.length_drop]; omega) (fun j u hu => by
      obtain ⟨y, hy⟩ := h (j + 1) u (by simpa using hu)
      refine ⟨y, ?_⟩
      rw [List.drop_drop]
      have : sumOf P ((t :: ts).take (j + 1)) = P.cellsOf t + sumOf P (ts.take j) := by simp [sumOf]
      rw [this] at hy; exact hy)
    refine ⟨xs ++ ys, ?_, xs, ys, rfl, ?_, r2, s2⟩
    · have := r1.append s1
      rwa [List.take_append_drop] at this
    · rw [← r1.get.1, hlen]

theorem repD_of_trod (hfr : ∀ a v, w.cell? a = some v → a.spot = none → fr a.block a.off = some v) : ∀ (n : Nat) (k : Nat) (t : TypeId) (cs : List Value) (x : DataW H × List MemPlace), Sup P n t = true → DataW.trod enc P w base spare held k t cs = some x → cs.length = P.cellsOf t → ∃ xs, RepDL fr cs xs ∧ Has P n t xs
  | 0, k, t, cs, x, hs, _, _ => by cases hs
  | n + 1, 0, t, cs, x, hs, h, _ => by simp [DataW.trod] at h
  | n + 1, k + 1, t, cs, x, hs, h, hl => by
    simp only [Sup] at hs
    split at hs
    · rename_i hu
      simp only [DataW.trod, hu] at h
      split at h <;> try (simp_all; done)
      rename_i b heq _
      exact ⟨[.bool _], ⟨.bool _, trivial⟩, by simp only [Has, hu]; exact ⟨_, rfl⟩⟩
    · rename_i kk hu
      simp only [DataW.trod, hu] at h
      split at h <;> try (simp_all; done)
      rename_i k1 k2 m _ heq
      cases heq
      split at h
      · rename_i hc
        obtain ⟨rfl, hwf⟩ := hc
        simp only [Lit.wf, Bool.and_eq_true, decide_eq_true_eq] at hwf
        exact ⟨[.int _ _], ⟨.int _ _, trivial⟩, by simp only [Has, hu]; exact ⟨_, rfl, hwf⟩⟩
      · cases h
    · rename_i hu
      simp only [DataW.trod, hu] at h
      split at h <;> try (simp_all; done)
      split at h
      · rename_i hc
        exact ⟨[.str _], ⟨.str _, trivial⟩, by simp only [Has, hu]; exact ⟨_, rfl, hc⟩⟩
      · cases h
    · rename_i e hu
      simp only [Bool.and_eq_true, beq_iff_eq, decide_eq_true_eq] at hs
      obtain ⟨⟨hs1, hs2⟩, hs3⟩ := hs
      rcases DataW.trod_slice hu h with ⟨rfl, _⟩ | ⟨a, len, cap, elems, rest, k', hk, rfl, _, hb, hlc, hcm, hel, hgets, _⟩
      · exact ⟨[.sl []], ⟨.sl0 _ _ (fun _ => rfl), trivial⟩, by simp only [Has, hu]; exact ⟨[], rfl, by simp, by simp⟩⟩
      · cases hk
        have hone : ∀ i, i < len → ∃ xs : List DV, (∃ cs', w.cells? base (a.add (i * P.cellsOf e)) (P.cellsOf e) = some cs' ∧ RepDL fr cs' xs) ∧ Has P n e xs ∧ xs.length = P.cellsOf e := by
          intro i hi
          have hg := hgets i hi
          rw [List.getElem?_eq_getElem (by omega)] at hg
          obtain ⟨cs', h1, h2⟩ := Option.bind_eq_some_iff.1 hg
          have hl' := (World.cells?_some h1).2.1
          obtain ⟨xs, r1, r2⟩ := repD_of_trod hfr n k e cs' _ hs3 h2 hl'
          exact ⟨xs, ⟨cs', h1, r1⟩, r2, by rw [← r1.get.1]; exact hl'⟩
        have hall : ∀ m, m ≤ len → ∃ es : List (List DV), es.length = m ∧ ∀ i x, es[i]? = some x → (∃ cs', w.cells? base (a.add (i * P.cellsOf e)) (P.cellsOf e) = some cs' ∧ RepDL fr cs' x) ∧ Has P n e x ∧ x.length = P.cellsOf e := by
          intro m
          induction m with
          | zero => exact fun _ => ⟨[], rfl, by simp⟩
          | succ m ihm =>
            intro hm
            obtain ⟨es, e1, e2⟩ := ihm (by omega)
            obtain ⟨xs, hx⟩ := hone m (by omega)
            refine ⟨es ++ [xs], by simp [e1], fun i x hi => ?_⟩
            by_cases h' : i < es.length
            · rw [List.getElem?_append_left h'] at hi; exact e2 i x hi
            · rw [List.getElem?_append_right (by omega)] at hi
              have : i = m := by
                have := (List.getElem?_eq_some_iff.1 hi).1; simp at this; omega
              subst this
              rw [e1, Nat.sub_self] at hi
              simp at hi; subst hi; exact hx
        obtain ⟨es, e1, e2⟩ := hall len (Nat.le_refl _)
        refine ⟨[.sl es], ⟨?_, trivial⟩, by
          simp only [Has, hu]
          refine ⟨es, rfl, by omega, fun x hx => ?_⟩
          obtain ⟨i, hi⟩ := List.getElem?_of_mem hx
          exact ⟨(e2 i x hi).2.2, (e2 i x hi).2.1⟩⟩
        by_cases h0 : len = 0
        · subst h0
          have : es = [] := List.length_eq_zero_iff.1 e1
          subst this
          exact .sl0 _ _ (fun h => by cases h)
        · have hspot : a.spot = none := by
            obtain ⟨xs, ⟨cs', h1, _⟩, _, _⟩ := hone 0 (by omega)
            have := (World.cells?_some h1).2.2 0 (by omega)
            have hlen := (World.cells?_some h1).2.1
            rw [List.getElem?_eq_getElem (by omega)] at this
            simp only [Nat.zero_mul, Addr.add, if_true] at this
            unfold World.cell? at this
            split at this
            · split at this
              · cases this
              · rename_i hsp; simpa using hsp
            · cases this
          obtain ⟨b, off, spot⟩ := a
          simp only at hspot
          subst hspot
          have hz : ∀ x ∈ es, x.length = P.cellsOf e := fun x hx => by
            obtain ⟨i, hi⟩ := List.getElem?_of_mem hx
            exact (e2 i x hi).2.2
          have hcell : ∀ (kk : Nat) c, es.flatten[kk]? = some c → ∃ v, fr b (off + kk) = some v ∧ RepD fr v c := by
            intro kk c hc
            have hflat : ∀ (l : List (List DV)) (kk : Nat) c, (∀ x ∈ l, x.length = P.cellsOf e) → l.flatten[kk]? = some c → ∃ i j x, kk = i * P.cellsOf e + j ∧ l[i]? = some x ∧ x[j]? = some c := by
              intro l
              induction l with
              | nil => intro kk c _ h; simp at h
              | cons y ys ihl =>
                intro kk c hzl hc
                rw [List.flatten_cons] at hc
                have hy := hzl y (by simp)
                by_cases hlt : kk < y.length
                · rw [List.getElem?_append_left hlt] at hc
                  exact ⟨0, kk, y, by simp, by simp, hc⟩
                · rw [List.getElem?_append_right (by omega)] at hc
                  obtain ⟨i, j, x, h1, h2, h3⟩ := ihl _ c (fun x hx => hzl x (by simp [hx])) hc
                  refine ⟨i + 1, j, x, ?_, by simpa using h2, h3⟩
                  rw [Nat.add_mul, Nat.one_mul]; omega
            obtain ⟨i, j, x, rfl, hi, hj⟩ := hflat es kk c hz hc
            obtain ⟨⟨cs', h1, r1⟩, _, hxl⟩ := e2 i x hi
            obtain ⟨v, hv, hrv⟩ := r1.get.2 j c hj
            have hjl : j < P.cellsOf e := by rw [← hxl]; exact (List.getElem?_eq_some_iff.1 hj).1
            have hc1 := (World.cells?_some h1).2.2 j hjl
            rw [hv] at hc1
            have ha : ((⟨b, off, none⟩ : Addr).add (i * P.cellsOf e)).add j = ⟨b, off + (i * P.cellsOf e + j), none⟩ := by
              unfold Addr.add
              by_cases h1 : i * P.cellsOf e = 0 <;> by_cases h2 : j = 0 <;> simp [h1, h2, Nat.add_assoc]
            rw [ha] at hc1
            exact ⟨v, hfr _ v hc1 rfl, hrv⟩
          refine .sl b off cap (P.cellsOf e) len es (fun kk => (fr b (off + kk)).getD undef) e1.symm hlc hz (fun kk c hc => ?_) (fun kk c hc => ?_)
          · obtain ⟨v, hv, _⟩ := hcell kk c hc; simp [hv]
          · obtain ⟨v, hv, hr⟩ := hcell kk c hc; simpa [hv] using hr
    · rename_i fs hu
      simp only [Bool.and_eq_true, List.all_eq_true, beq_iff_eq, List.mem_range] at hs
      obtain ⟨⟨hs1, hs2⟩, hs3⟩ := hs
      obtain ⟨xs, k', hk, _, hl2, hxl, hseg⟩ := DataW.trod_struct hu h
      cases hk
      obtain ⟨ys, r1, r2⟩ := rep_segs (fr := fr) (fun t cs x => repD_of_trod hfr n k t cs x) (fs.toList.map (·.type)) cs (fun t ht => by
        obtain ⟨f, hf, rfl⟩ := List.mem_map.1 ht
        exact hs3 f hf) (by rw [hl, hs2]) (fun j t ht => by
          simp only [List.getElem?_map, Option.map_eq_some_iff] at ht
          obtain ⟨f, hf, rfl⟩ := ht
          have hf' : fs[j]? = some f := by simpa using hf
          have hjlt := (Array.getElem?_eq_some_iff.1 hf').1
          have hoff := hs1 j hjlt
          rw [hf'] at hoff
          simp only [Option.map_some, Option.getD_some, beq_iff_eq] at hoff
          have := hseg j f hf'
          rw [hoff, List.getElem?_eq_getElem (by omega)] at this
          exact ⟨_, this⟩)
      exact ⟨ys, r1, by simp only [Has, hu]; exact r2⟩
    · rename_i m e hu
      simp only [Bool.and_eq_true, beq_iff_eq] at hs
      obtain ⟨hs2, hs3⟩ := hs
      simp only [DataW.trod, hu] at h
      rw [if_pos hl] at h
      simp only [Option.map_eq_some_iff] at h
      obtain ⟨xs, hxs, _⟩ := h
      obtain ⟨ys, r1, r2⟩ := rep_segs (fr := fr) (fun t cs x => repD_of_trod hfr n k t cs x) (List.replicate m e) cs (fun t ht => by
        rw [List.eq_of_mem_replicate ht]; exact hs3) (by rw [hl, hs2]) (fun j t ht => by
          have hjm : j < m := by
            have := (List.getElem?_eq_some_iff.1 ht).1; simpa using this
          have hte : t = e := by
            rw [List.getElem?_replicate] at ht
            rw [if_pos hjm] at ht
            exact (Option.some.inj ht).symm
          subst hte
          have hsum : sumOf P ((List.replicate m t).take j) = j * P.cellsOf t := by
            rw [List.take_replicate, Nat.min_eq_left (by omega)]; simp [sumOf]
          rw [hsum]
          have := mapM_some_get hxs j j (by simp [hjm])
          have hxl : xs.length = m := by simpa using mapM_some_length hxs
          rw [List.getElem?_eq_getElem (by omega)] at this
          exact ⟨_, this⟩)
      exact ⟨ys, r1, by simp only [Has, hu]; exact r2⟩
    · cases hs
end

end Go.Fw
