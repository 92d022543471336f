import Derived.Test.YtpfdldcejeilnaaFwE
set_option linter.unusedVariables false
set_option linter.unusedSimpArgs false
namespace Go.Fw
open Go
section sound
variable {P : Program} {o : Oper} {env : List PV} {L : List PObj} {ob : Prop} {out : Out}

theorem partPlace_spec {fs : Array Field} {p : Nat × Operand} {q : Nat × Nat × Operand} (h : partPlace P fs p = some q) :
    ∃ f n, fs[p.1]? = some f ∧ szOf P f.type = some n ∧ q = (f.offset, n, p.2) := by
  unfold partPlace at h
  split at h
  · rename_i f hf
    cases hn : szOf P f.type with
    | none => rw [hn] at h; cases h
    | some n => rw [hn] at h; simp only [Option.map_some, Option.some.injEq] at h; exact ⟨f, n, hf, hn, h.symm⟩
  · cases h

theorem mapM_spec {α β : Type} {f : α → Option β} : ∀ {l : List α} {r : List β}, l.mapM f = some r → r.length = l.length ∧ ∀ (j : Nat) x y, l[j]? = some x → r[j]? = some y → f x = some y
  | [], r, h => by
    simp at h; subst h; exact ⟨rfl, fun j x y h => by simp at h⟩
  | a :: l, r, h => by
    rw [List.mapM_cons] at h
    cases ha : f a with
    | none => rw [ha] at h; cases h
    | some b =>
      rw [ha] at h
      cases hl : l.mapM f with
      | none => rw [hl] at h; cases h
      | some bs =>
        rw [hl] at h
        cases h
        obtain ⟨h1, h2⟩ := mapM_spec hl
        refine ⟨by simp [h1], fun j x y hx hy => ?_⟩
        cases j with
        | zero => simp at hx hy; subst hx; subst hy; exact ha
        | succ j => exact h2 j x y (by simpa using hx) (by simpa using hy)

theorem run_mapM_places {fs : Array Field} (h : ∀ f ∈ fs, ∃ n, szOf P f.type = some n) (w : World) :
    ∃ ps : Array (Nat × Nat), (fs.mapM fun f => do pure (f.offset, ← sizeOf f.type) : Sem (Array (Nat × Nat))).run P w = .ok ps w ∧ ps.size = fs.size ∧
      ∀ (i : Nat) f n, fs[i]? = some f → szOf P f.type = some n → ps[i]? = some (f.offset, n) := by
  obtain ⟨l⟩ := fs
  have : ∀ (l : List Field), (∀ f ∈ l, ∃ n, szOf P f.type = some n) → ∃ ps : List (Nat × Nat), (l.mapM fun f => do pure (f.offset, ← sizeOf f.type) : Sem (List (Nat × Nat))).run P w = .ok ps w ∧ ps.length = l.length ∧
      ∀ (i : Nat) f n, l[i]? = some f → szOf P f.type = some n → ps[i]? = some (f.offset, n) := by
    intro l
    induction l with
    | nil => intro _; exact ⟨[], by simp, rfl, fun i f n h => by simp at h⟩
    | cons f l ih =>
      intro h
      obtain ⟨ps, h1, h2, h3⟩ := ih (fun f hf => h f (by simp [hf]))
      obtain ⟨n, hn⟩ := h f (by simp)
      refine ⟨(f.offset, n) :: ps, ?_, by simp [h2], fun i f' n' hf hn' => ?_⟩
      · simp only [bind_pure_comp] at h1; simp [List.mapM_cons, run_szOf hn, h1]
      · cases i with
        | zero => simp at hf; subst hf; rw [hn] at hn'; cases hn'; rfl
        | succ i => simpa using h3 i f' n' (by simpa using hf) hn'
  obtain ⟨ps, h1, h2, h3⟩ := this l (fun f hf => h f (by simpa using hf))
  refine ⟨ps.toArray, ?_, by simp [h2], fun i f n hf hn => by simpa using h3 i f n (by simpa using hf) hn⟩
  rw [List.mapM_toArray]
  simp only [bind_pure_comp] at h1 ⊢
  simp [h1]

theorem snd_build_struct {t : TypeId} {fs : Array Field} {parts : Array (Nat × Operand)} {zs : List PV} {ps : List (Nat × Nat × Operand)} (ht : P.underlying t = some (.struct fs)) (hz : zcells P t = some zs)
    (hall : ∀ f ∈ fs, ∃ n, szOf P f.type = some n) (hps : parts.toList.mapM (partPlace P fs) = some ps) (ho : o.op = .build t parts)
    (hp : peval env L (.build zs ps) = some (ob, out)) : OpOK P o env (Lf L) out := by
  simp only [peval] at hp
  cases hfl : fillP zs (ps.map fun (o, n, x) => (o, n, ev env x)) with
  | none => rw [hfl] at hp; cases hp
  | some cs =>
    rw [hfl] at hp
    simp only [Option.map_some, Option.some.injEq, Prod.mk.injEq] at hp
    obtain ⟨-, rfl⟩ := hp
    obtain ⟨z, ti, hi, hzz, hpl, rfl, hl⟩ := zcells_spec hz
    obtain ⟨hlen, hsp⟩ := mapM_spec hps
    refine ok_pure rfl (fun g w ρ hx hf _ => ?_)
    obtain ⟨pl, hrun, hpsz, hplace⟩ := run_mapM_places hall w
    obtain ⟨C', h1, h2⟩ := fill_rep (place := (pl[·]?)) (real := parts.toList.map fun (i, x) => (i, ρ x)) (zero_rep hpl g) hfl (by simp [hlen]) (fun j i v q a b => by
      simp only [List.getElem?_map, Option.map_eq_some_iff] at a b
      obtain ⟨⟨i', x⟩, hj, he⟩ := a
      obtain ⟨q', hj', he'⟩ := b
      simp only [Prod.mk.injEq] at he
      obtain ⟨rfl, rfl⟩ := he
      obtain ⟨f, n, hf1, hf2, hf3⟩ := partPlace_spec (hsp j _ _ hj hj')
      subst hf3
      subst he'
      refine ⟨hplace _ f n hf1 hf2, hx x ?_⟩
      rw [ho]; simp only [Op.operands, List.mem_map]; exact ⟨_, List.mem_of_getElem? hj, rfl⟩)
    refine ⟨.agg C', ?_, rep_agg_of h2⟩
    simp only [execOp, ho, Instr.build, Sem.run_bind, zeroValue, typeInfo, run_underlying ht, Result.andThen_ok]
    simp only [bind_pure_comp] at hrun
    simp [hi, hzz, hrun, h1]

theorem rep_cyc {α : Type} {zs : List α} : ∀ (len i : Nat), i < len * zs.length → ((List.replicate len zs).flatten)[i]? = zs[i % zs.length]?
  | 0, i, h => by simp at h
  | len + 1, i, h => by
    rw [List.replicate_succ, List.flatten_cons]
    by_cases hlt : i < zs.length
    · rw [List.getElem?_append_left hlt, Nat.mod_eq_of_lt hlt]
    · rw [List.getElem?_append_right (by omega), rep_cyc len (i - zs.length) (by rw [Nat.succ_mul] at h; omega)]
      congr 1
      rw [← Nat.mod_eq_sub_mod (by omega)]

theorem zeros_rep {z : Value} {n len : Nat} (h : plainConst z = true) (g : Gh) (hl : (spread (ofConst z)).length = n) (hn : 0 < n) :
    CellsRep g ((Array.range (len * n)).map (z.cells[· % z.cells.size]!)) ((List.replicate len (spread (ofConst z))).flatten) := by
  obtain ⟨h1, h2, h3⟩ := zero_rep h g
  have hzn : z.cells.size = n := by rw [h1, hl]
  refine ⟨by simp [hl], fun i v hv => ?_, fun i v p hv hp => ?_⟩
  · have hi : i < len * n := by have := (Array.getElem?_eq_some_iff.1 hv).1; simpa using this
    simp [hi] at hv
    have hm : i % z.cells.size < z.cells.size := Nat.mod_lt _ (by omega)
    subst hv
    rw [getElem!_pos z.cells _ hm]
    exact h2 _ _ (Array.getElem?_eq_getElem hm)
  · have hi : i < len * n := by have := (Array.getElem?_eq_some_iff.1 hv).1; simpa using this
    simp [hi] at hv
    have hm : i % z.cells.size < z.cells.size := Nat.mod_lt _ (by omega)
    subst hv
    rw [getElem!_pos z.cells _ hm]
    rw [rep_cyc _ _ (by rw [hl]; exact hi), hl, ← hzn] at hp
    exact h3 _ _ _ (Array.getElem?_eq_getElem hm) hp

theorem fill_size : ∀ {parts : List (Nat × Nat × PV)} {zs cs : List PV}, fillP zs parts = some cs → cs.length = zs.length
  | [], zs, cs, h => by simp only [fillP, Option.some.injEq] at h; rw [h]
  | (off, n, p) :: parts, zs, cs, h => by
    simp only [fillP] at h
    split at h
    · rename_i hc
      obtain ⟨_, hn, ho⟩ := hc
      rw [fill_size h]; simp [hn]; omega
    · cases h

theorem snd_bslice {t e : TypeId} {n len : Nat} {parts : Array (Nat × Operand)} {zs : List PV} (ht : P.underlying t = some (.slice e)) (hz : zcells P e = some zs) (hn : szOf P e = some n) (hsz : len * n ≤ 2 ^ 24) (hn0 : 0 < n)
    (ho : o.op = .buildSlice t len parts) (hp : peval env L (.bslice n len ((List.replicate len zs).flatten) (parts.toList.map fun (i, x) => (i * n, n, x))) = some (ob, out)) : OpOK P o env (Lf L) out := by
  simp only [peval] at hp
  cases hfl : fillP ((List.replicate len zs).flatten) ((parts.toList.map fun (i, x) => (i * n, n, x)).map fun (o, n, x) => (o, n, ev env x)) with
  | none => rw [hfl] at hp; cases hp
  | some cs =>
    rw [hfl] at hp
    simp only [Option.map_some, Option.some.injEq, Prod.mk.injEq] at hp
    obtain ⟨-, rfl⟩ := hp
    obtain ⟨z, ti, hi, hzz, hpl, rfl, hl⟩ := zcells_spec hz
    have hln : (spread (ofConst z)).length = n := by
      unfold szOf at hn; rw [hi] at hn; simp at hn; omega
    intro g w a K Q hx hf _ _ hnew k
    have hn1 := at_new (hnew _ _ (List.mem_singleton.2 rfl)) rfl
    obtain ⟨C', h1, h2⟩ := fill_rep (place := fun i => some (i * n, n)) (real := parts.toList.map fun (i, x) => (i, a.eval x)) (zeros_rep hpl g hln hn0) hfl (by simp) (fun j i v q a' b => by
      simp only [List.getElem?_map, Option.map_eq_some_iff, List.map_map] at a' b
      obtain ⟨⟨i', x⟩, hj, he⟩ := a'
      obtain ⟨⟨i'', x'⟩, hj', he'⟩ := b
      rw [hj] at hj'; cases hj'
      simp only [Prod.mk.injEq] at he
      obtain ⟨rfl, rfl⟩ := he
      subst he'
      refine ⟨rfl, hx x ?_⟩
      rw [ho]; simp only [Op.operands, List.mem_map]; exact ⟨_, List.mem_of_getElem? hj, rfl⟩)
    have hcs : cs.length = len * n := by
      have := fill_size hfl
      rw [this]; simp [hln]
    have hC : C'.size = len * n := by rw [h2.1, hcs]
    have hcells : (do if len * n = 0 then pure #[] else do pure (← zeroValue e).cells : Sem (Array Value)).run P w = .ok (if len * n = 0 then #[] else z.cells) w := by
      split <;> simp [zeroValue, typeInfo, hi, hzz]
    have hmap : (Array.range (len * n)).map ((if len * n = 0 then #[] else z.cells)[· % (if len * n = 0 then #[] else z.cells).size]!) = (Array.range (len * n)).map (z.cells[· % z.cells.size]!) := by
      split
      · rename_i h0; rw [h0]; simp
      · rfl
    refine wp_of_value (v := .slice (some ⟨w.heap.size, 0, none⟩) len len) (w' := w.alloc (.cells C' e)) ?_ (k _ (g.new L.length w.heap.size C'.size) _ (.osl _ _ _ _ _ w.heap.size _ (by simp [Gh.new]) (Nat.le_refl _) (by simp [Gh.new, hC]) (fun _ => rfl)) ?_)
    · simp only [execOp, ho, Instr.buildSlice, Sem.run_bind, run_underlying ht, Result.andThen_ok, run_szOf hn]
      rw [if_neg (by omega)]
      by_cases h0 : len * n = 0
      · rw [if_pos h0] at hmap ⊢
        simp only [Sem.run_bind, Sem.run_pure, Result.andThen_ok, hmap]
        simp [h1, newRow]
      · rw [if_neg h0] at hmap ⊢
        simp only [Sem.run_bind, Sem.run_pure, zeroValue, typeInfo]
        simp [hi, hzz, h1, newRow]
    · exact stp_new hf hn1 (by rw [Lf_new]; rfl) rfl rfl rfl (by show (w.heap.push _).size = _; simp) (fun b hb => heap_alloc_old w _ hb) (heap_alloc_new w _) (by rw [h2.1]; exact Nat.le_refl _)
        (fun i v _ h => h2.2.1 i v h) (fun i v p h h' => h2.2.2 i v p h h')

/-- What stands in an object, its block, and that no cell of it is to stay. -/
theorem arr_block {g : Gh} {w : World} {q b : Nat} {cs : List PV} (h : RelObj g w q (.arr cs)) (hb : g.at_ q = some b) :
    ∃ c e, w.heap[b]? = some (.cells c e (0, 0)) ∧ cs.length ≤ c.size ∧ c.size = g.sz q ∧ (∀ (i : Nat) v, i < cs.length → c[i]? = some v → one v = true) ∧
      (∀ (i : Nat) v p, c[i]? = some v → cs[i]? = some p → Rep g v p) ∧ ∀ i, g.fr b i = none := by
  rcases h with ⟨_, h⟩ | ⟨b', c, e, h1, h2, h3, h4, h5, h6, h7⟩
  · rw [hb] at h; cases h
  · rw [hb] at h1; cases h1; exact ⟨c, e, h2, h3, h4, h5, h6, h7⟩

/-- A live object is written: its block alone changes. -/
theorem stp_set {L : Objs} {g : Gh} {w : World} {q b : Nat} {cs : List PV} {c c' : Array Value} {e : TypeId} (hf : FrOK g w) (hL : Live (L q) = true) (hb : g.at_ q = some b)
    (hfr : ∀ i, g.fr b i = none) (hg : w.heap[b]? = some (.cells c e (0, 0))) (hs : c'.size = g.sz q)
    (hl : cs.length ≤ c'.size) (h1 : ∀ (i : Nat) v, i < cs.length → c'[i]? = some v → one v = true) (hr : ∀ (i : Nat) v p, c'[i]? = some v → cs[i]? = some p → Rep g v p) :
    Stp L [(q, .arr cs)] g g w (w.setRow b c') where
  os := rfl
  tape := rfl
  output := rfl
  size := by simp
  block := fun b' hb' hx => setRow_other w b b' c' (fun e => hx q (.arr cs) (by simp) hL (e ▸ hb))
  le := Gle.refl g
  at_ := fun _ _ => rfl
  keep := fun _ _ => rfl
  frn := fun b i v h => .inl h
  frok := fun b' i v hv => by
    have hne : b' ≠ b := fun e => by rw [e, hfr] at hv; cases hv
    have := hf b' i v hv
    rw [← this]
    simp [World.cell?, setRow_other w b b' c' hne]
  obj := fun m om hm => by
    simp only [List.mem_singleton, Prod.mk.injEq] at hm
    obtain ⟨rfl, rfl⟩ := hm
    exact .inr ⟨b, c', e, hb, setRow_heap w b c c' e (0, 0) hg, hl, hs, h1, hr, hfr⟩
  own := fun m om hm hlive b' hb' => by
    simp only [List.mem_singleton, Prod.mk.injEq] at hm
    obtain ⟨rfl, rfl⟩ := hm
    exact .inr ⟨m, .arr cs, by simp, hL, hb'⟩
  inj := fun m om m' om' b hm hm' _ _ _ _ => by
    simp only [List.mem_singleton, Prod.mk.injEq] at hm hm'
    rw [hm.1, hm'.1]

theorem splice_get {α : Type} {l vs : List α} {off : Nat} (h : off + vs.length ≤ l.length) (i : Nat) :
    (l.take off ++ vs ++ l.drop (off + vs.length))[i]? = if off ≤ i ∧ i < off + vs.length then vs[i - off]? else l[i]? := by
  by_cases a : i < off
  · rw [List.append_assoc, List.getElem?_append_left (by simp; omega), List.getElem?_take_of_lt a, if_neg (by omega)]
  · by_cases b : i < off + vs.length
    · rw [List.append_assoc, List.getElem?_append_right (by simp; omega), List.getElem?_append_left (by simp; omega), if_pos ⟨by omega, b⟩]
      congr 1; simp; omega
    · rw [List.getElem?_append_right (by simp; omega), List.getElem?_drop, if_neg (by omega)]
      congr 1; simp; omega

theorem snd_store {t : TypeId} {n : Nat} {x v : Operand} (hz : szOf P t = some n) (ho : o.op = .store t x v) (hp : peval env L (.store n x v) = some (ob, out)) (hob : ob) : OpOK P o env (Lf L) out := by
  simp only [peval] at hp
  split at hp
  · rename_i q off h1
    split at hp
    · rename_i cs hL
      simp only [Option.some.injEq, Prod.mk.injEq] at hp
      obtain ⟨rfl, rfl⟩ := hp
      obtain ⟨hv, hn, hoff⟩ := hob
      intro g w a K Q hx hf _ hq _ k
      have hLf : Lf L q = .arr cs := Lf_some hL
      have hq := hq q _ (List.mem_singleton.2 rfl); rw [hLf] at hq
      have r1 := hx x (by simp [ho, Op.operands]); rw [h1] at r1
      have r2 := hx v (by simp [ho, Op.operands])
      obtain ⟨vs, c1, c2, c3, c4⟩ := spread_cells r2 hv
      generalize hxa : a.eval x = va at r1
      cases r1 with
      | ptr _ _ b hb =>
        obtain ⟨c, e, d1, d2, d3, d4, d5, d6⟩ := arr_block hq hb
        have hvl : vs.length = n := by rw [c2]; exact hn
        have hrun := run_storeCells_at P b off e vs 0 c w d1 (by rw [hvl]; omega) (fun u hu => by rw [one_eq]; obtain ⟨i, hi⟩ := List.getElem?_of_mem hu; exact c3 i u hi)
        simp only [Nat.add_zero] at hrun
        have hcl : c.toList.length = c.size := by simp
        refine wp_of_skip (w' := w.setRow b (c.toList.take off ++ vs ++ c.toList.drop (off + vs.length)).toArray) ?_ (k _ g _ .und ?_)
        · have hsz : (a.eval v).cells.size = n := by rw [c1]; simp [hvl]
          have hto : (a.eval v).cells.toList = vs := by rw [c1]
          simp [execOp, ho, hxa, Instr.storeAt, Instr.sureAddr, storeVar, run_szOf hz, hsz, hto, hrun]
        · have get := splice_get (l := c.toList) (vs := vs) (off := off) (by rw [hcl, hvl]; omega)
          have get' := splice_get (l := cs) (vs := spread (ev env v)) (off := off) (by rw [hn]; exact hoff)
          rw [hn] at get'
          refine stp_set hf (by rw [hLf]; rfl) hb d6 d1 (by simp; omega) (by simp [hn]; omega) (fun i u hi hu => ?_) (fun i u p hu hp => ?_)
          · have hi' : i < cs.length := by simp [hn] at hi; omega
            have hu' : (c.toList.take off ++ vs ++ c.toList.drop (off + vs.length))[i]? = some u := by simpa using hu
            rw [get i] at hu'
            split at hu'
            · exact c3 _ _ hu'
            · exact d4 i u hi' (by simpa using hu')
          · have hu' : (c.toList.take off ++ vs ++ c.toList.drop (off + vs.length))[i]? = some u := by simpa using hu
            rw [get i] at hu'
            rw [get' i] at hp
            rw [hvl] at hu'
            split at hu'
            · rename_i hc
              rw [if_pos hc] at hp
              exact c4 _ _ _ hu' hp
            · rename_i hc
              rw [if_neg hc] at hp
              exact d5 i u p (by simpa using hu') hp
    · cases hp
  · cases hp

end sound
end Go.Fw
