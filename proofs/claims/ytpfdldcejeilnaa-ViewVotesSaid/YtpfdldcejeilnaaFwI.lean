import Derived.Test.YtpfdldcejeilnaaFwH
set_option linter.unusedVariables false
set_option linter.unusedSimpArgs false
namespace Go.Fw
open Go
section sound
variable {P : Program} {o : Oper} {env : List PV} {L : List PObj} {ob : Prop} {out : Out}

/-- An array in memory, cut: what is known of it ends with its object. -/
theorem snd_sliceA {t e : TypeId} {n z : Nat} {x : Operand} {lo hi mx : Option Operand} (ht : P.underlying t = some (.array n e)) (hz : szOf P e = some z) (hmx : mx.isSome = true → hi.isSome = true) (ho : o.op = .slice t x lo hi mx)
    (hp : peval env L (.sliceA n z x lo hi mx) = some (ob, out)) (hob : ob) : OpOK P o env (Lf L) out := by
  simp only [peval] at hp
  split at hp
  · rename_i q off h1
    split at hp
    · rename_i cs hL
      split at hp
      · rename_i l h m hb
        simp only [Option.some.injEq, Prod.mk.injEq] at hp
        obtain ⟨rfl, rfl⟩ := hp
        obtain ⟨q1, q2, q3, q4, q5⟩ := hob
        refine ok_pure rfl (fun g w ρ hx _ hr => ?_)
        have r1 := hx x (by simp [ho, Op.operands]); rw [h1] at r1
        have hq := hr q (by simp); rw [Lf_some hL] at hq
        generalize hv : ρ x = v at r1
        cases r1 with
        | ptr _ _ b hb1 =>
          have := run_bnds (P := P) (g := g) (ρ := ρ) false w hb (Nat.le_refl _) (fun y hy => hx y (by rw [ho]; exact mem_opt hy)) q1 q2 q3 q4
          rcases this with hrun | ⟨e1, e2⟩
          · have tight := tight_of (tt := true) (cap := n) hb (fun _ => rfl)
            have hle : (if mx.isSome then m.toNat else n) ≤ n ∧ h.toNat ≤ (if mx.isSome then m.toNat else n) := by split <;> omega
            obtain ⟨c, e', d1, d2, d3, -⟩ := arr_block hq hb1
            generalize (if mx.isSome then m.toNat else n) = mm at hrun tight hle
            refine ⟨.slice (some (if mm = l.toNat then ⟨b, off, none⟩ else (⟨b, off, none⟩ : Addr).add (l.toNat * z))) (h.toNat - l.toNat) (mm - l.toNat), ?_, ?_⟩
            · simp [execOp, ho, Instr.sliceAt, run_underlying ht, hv, Instr.sureAddr, hrun, run_szOf hz]
            · by_cases hml : mm = l.toNat
              · have e1 : h.toNat - l.toNat = 0 := by omega
                have e2 : mm - l.toNat = 0 := by omega
                simp only [e1, e2]; exact .osl0 _ _ _ _ _
              · rw [if_neg hml, add_plain]
                have hmul : (l.toNat + (mm - l.toNat)) * z ≤ n * z := Nat.mul_le_mul_right _ (by omega)
                rw [Nat.add_mul] at hmul
                exact .osl _ _ _ _ _ b _ hb1 (by omega) (by omega) (fun hc => by have := tight (by simpa using hc); omega)
          · rw [hmx e1] at e2; cases e2
      · cases hp
    · cases hp
  · cases hp

theorem snd_sliceS {t : TypeId} {x : Operand} {lo hi : Option Operand} (ht : P.underlying t = some .string) (ho : o.op = .slice t x lo hi none)
    (hp : peval env L (.sliceS x lo hi) = some (ob, out)) (hob : ob) : OpOK P o env (Lf L) out := by
  simp only [peval] at hp
  split at hp
  · rename_i s h1
    split at hp
    · rename_i l h m hb
      simp only [Option.some.injEq, Prod.mk.injEq] at hp
      obtain ⟨rfl, rfl⟩ := hp
      obtain ⟨q1, q2, q3⟩ := hob
      have hm := bnds_none hb rfl
      refine ok_pure rfl (fun g w ρ hx _ _ => ?_)
      have r1 := hx x (by simp [ho, Op.operands]); rw [h1] at r1
      have := run_bnds (P := P) (g := g) (ρ := ρ) (mx := none) false w hb (Nat.le_refl _) (fun y hy => hx y (by rw [ho]; exact mem_opt hy)) q1 q2 q3 (by omega)
      rcases this with hrun | ⟨e1, _⟩
      · refine ⟨_, ?_, .d (.str _)⟩
        simp only [Option.map_none] at hrun
        simp [execOp, ho, Instr.sliceAt, run_underlying ht, Instr.slice, rep_str r1, hrun]
      · cases e1
    · cases hp
  · cases hp

theorem snd_mkslice {t e : TypeId} {i : TypeInfo} {zs : List PV} {l c : Operand} (ht : P.underlying t = some (.slice e)) (hi : P.info? e = some i) (hz : zcells P e = some zs) (hsz : 0 < i.size) (ho : o.op = .makeSlice t l c)
    (hp : peval env L (.mkslice i.size i.bytes zs l c) = some (ob, out)) (hob : ob) : OpOK P o env (Lf L) out := by
  simp only [peval] at hp
  split at hp
  · rename_i n k h1 h2
    simp only [Option.some.injEq, Prod.mk.injEq] at hp
    obtain ⟨rfl, rfl⟩ := hp
    obtain ⟨q1, rfl, q3, q4⟩ := hob
    obtain ⟨kl, h1⟩ := idx_some h1
    obtain ⟨kc, h2⟩ := idx_some h2
    obtain ⟨z, ti, hti, hzz, hpl, rfl, hzl⟩ := zcells_spec hz
    rw [hi] at hti; cases hti
    intro g w a K Q hx hf _ _ hnew kk
    have hn1 := at_new (hnew _ _ (List.mem_singleton.2 rfl)) rfl
    have r1 := hx l (by simp [ho, Op.operands]); rw [h1] at r1
    have r2 := hx c (by simp [ho, Op.operands]); rw [h2] at r2
    have hrep := zeros_rep (len := n.toNat) hpl g hzl hsz
    have hw : IntKind.i64.wrap n = n := by
      have := IntWalk.i64_in n (by omega)
      simpa using this
    have hlarge : ¬ ((i.bytes : Int) * n > 2 ^ 48) := by rw [Int.mul_comm]; omega
    have hroom : (askRoom (n.toNat * i.bytes)).run P w = .ok () w := by
      unfold askRoom roomBytes
      rw [if_neg]
      · rfl
      · have : ((n.toNat * i.bytes : Nat) : Int) = n * i.bytes := by push_cast; rw [Int.toNat_of_nonneg q1]
        omega
    have hC : ((Array.range (n.toNat * i.size)).map (z.cells[· % z.cells.size]!)).size = n.toNat * i.size := by simp
    refine wp_of_value (v := .slice (some ⟨w.heap.size, 0, none⟩) n.toNat n.toNat) (w' := w.alloc (.cells ((Array.range (n.toNat * i.size)).map (z.cells[· % z.cells.size]!)) e)) ?_
      (kk _ (g.new L.length w.heap.size (n.toNat * i.size)) _ (.osl _ _ _ _ _ w.heap.size _ (by simp [Gh.new]) (Nat.le_refl _) (by simp [Gh.new]) (fun _ => rfl)) ?_)
    · have h0 : (decide (n < 0) || decide ((i.bytes : Int) * n > 2 ^ 48)) = false := by simp; omega
      simp only [execOp, ho, Instr.makeSlice, Sem.run_bind, run_underlying ht, Result.andThen_ok]
      simp only [rep_int r1, rep_int r2, asInt, asIntOf, Sem.run_bind, Sem.run_pure, Result.andThen_ok, typeInfo, hw]
      simp [hi, hw]
      have hm : (i.bytes : Int) * n ≤ 140737488355328 := by rw [Int.mul_comm]; exact q4
      have hsz' : szOf P e = some i.size := by simp [szOf, hi]
      rw [if_neg (fun h => by
        rcases h with (h | h) | h
        · exact absurd q1 (Int.not_le.mpr h)
        · exact absurd (Int.le_trans hm (by decide)) (Int.not_le.mpr h)
        · exact absurd q1 (Int.not_le.mpr h))]
      simp only [hroom, Result.andThen_ok, run_szOf hsz']
      by_cases hn0 : n.toNat * i.size = 0
      · rw [if_pos hn0]
        have hnn : n.toNat = 0 := by rcases Nat.mul_eq_zero.1 hn0 with h | h <;> omega
        have e0 : Array.range 0 = #[] := rfl
        simp [hnn, newRow, e0]
      · rw [if_neg hn0]
        simp [zeroValue, typeInfo, hi, hzz, newRow]
    · have st := stp_new (c := (Array.range (n.toNat * i.size)).map (z.cells[· % z.cells.size]!)) (L := Lf L) (e := e) (w := w) (w' := w.alloc (.cells ((Array.range (n.toNat * i.size)).map (z.cells[· % z.cells.size]!)) e)) hf hn1 (by rw [Lf_new]; rfl) rfl rfl rfl (by show (w.heap.push _).size = _; simp) (fun b hb => heap_alloc_old w _ hb) (heap_alloc_new w _) (by rw [hrep.1]; exact Nat.le_refl _)
        (fun i v _ h => hrep.2.1 i v h) (fun i v p h h' => hrep.2.2 i v p h h')
      rw [hC] at st; exact st
  · cases hp

theorem flat_single {α β : Type} (f : α → β) (xs : List α) : (xs.map fun n => [f n]).flatten = xs.map f := by
  induction xs with
  | nil => rfl
  | cons y ys ih => simp [ih]

theorem bytes_frozen {es : List (List DV)} (h : ∀ e ∈ es, ∃ n : Int, e = [.int .u8 n]) : ∃ xs : List Int, es = xs.map (fun n => [.int .u8 n]) := by
  induction es with
  | nil => exact ⟨[], rfl⟩
  | cons e es ih =>
    obtain ⟨n, rfl⟩ := h e (by simp)
    obtain ⟨xs, rfl⟩ := ih (fun e he => h e (by simp [he]))
    exact ⟨n :: xs, rfl⟩

theorem bytes_own {cs : List PV} (h : ∀ p ∈ cs, ∃ n : Int, p = .d (.int .u8 n)) : ∃ xs : List Int, cs = xs.map (fun n => .d (.int .u8 n)) := by
  induction cs with
  | nil => exact ⟨[], rfl⟩
  | cons e es ih =>
    obtain ⟨n, rfl⟩ := h e (by simp)
    obtain ⟨xs, rfl⟩ := ih (fun e he => h e (by simp [he]))
    exact ⟨n :: xs, rfl⟩

theorem snd_b2s {s t e : TypeId} {x : Operand} (hs : P.underlying s = some (.slice e)) (he : P.underlying e = some (.int .u8)) (ht : P.underlying t = some .string) (ho : o.op = .convert s t x)
    (hp : peval env L (.b2s x) = some (ob, out)) (hob : ob) : OpOK P o env (Lf L) out := by
  have nonnil : ∀ (ρ : Operand → Value) (w : World) (b off len cap : Nat) (xs : List Int), ρ x = .slice (some ⟨b, off, none⟩) len cap → xs.length = len → (∀ i, i < len → w.cell? ⟨b, off + i, none⟩ = some (.int .u8 (xs.getD i 0))) →
      (execOp ρ o).run P w = .ok (.value (.string (strOfNums xs))) w := by
    intro ρ w b off len cap xs hv hl hc
    have := run_convert_bytes_arg (P := P) w s e hs he b off len cap xs hl hc t ht
    simp [execOp, ho, hv, this]
  have empty : ∀ (ρ : Operand → Value) (w : World) (a : Option Addr) (cap : Nat), ρ x = .slice a 0 cap → (execOp ρ o).run P w = .ok (.value (.string ByteArray.empty)) w := by
    intro ρ w a cap hv
    cases a with
    | none =>
      have := run_convert_bytes_nil (P := P) w s e hs he 0 cap t ht
      simp [execOp, ho, hv, this]
    | some a =>
      have hl : (loadCells a 0).run P w = .ok (([] : List Int).map (Value.int .u8)).toArray w := by simp [loadCells, loadCellsFrom]
      have h1 := run_bytesToString (P := P) w a 0 cap [] hl
      have h2 := run_convert_bytes_string (P := P) w s t e (some a) 0 cap hs he ht
      simp [execOp, ho, hv, h2, h1]
  have frozen : ∀ (g : Gh) (w : World) (ρ : Operand → Value) (es : List (List DV)), FrOK g w → RepD g.fr (ρ x) (.sl es) → (∀ e ∈ es, ∃ n : Int, e = [.int .u8 n]) → (execOp ρ o).run P w = .ok (.value (.string (bytesOf es))) w := by
    intro g w ρ es hf hr hb
    obtain ⟨xs, rfl⟩ := bytes_frozen hb
    have hbo : bytesOf (xs.map fun n => [DV.int .u8 n]) = strOfNums xs := by
      unfold bytesOf strOfNums
      congr 2
      rw [List.map_map]; rfl
    rw [hbo]
    have hz : ∀ e ∈ xs.map (fun n => [DV.int .u8 n]), e.length = 1 := fun e he => by
      obtain ⟨n, _, rfl⟩ := List.mem_map.1 he; rfl
    obtain ⟨vs, hv⟩ := cells_frozen hf hz hr
    obtain ⟨A, c, hvx, hle, hcells⟩ := hv.val
    have hfl := flat_single (DV.int .u8) xs
    by_cases h0 : xs = []
    · subst h0
      exact empty ρ w A c (by simpa using hvx)
    · have hpos : 0 < xs.length := List.length_pos_iff.2 h0
      obtain ⟨a, rfl, hc⟩ := hcells (by simpa using hpos)
      obtain ⟨a', cap', hsl, hbase⟩ := slice_base hr
      have hsl' := hsl
      rw [hvx] at hsl'
      simp only [Value.slice.injEq] at hsl'
      obtain ⟨b, off, hab, -⟩ := hbase 0 [.int .u8 xs[0]] (by simp [hpos])
      rw [hab] at hsl'
      have ha : a = ⟨b, off, none⟩ := by simpa using hsl'.1
      subst ha
      refine nonnil ρ w b off _ c xs hvx (by simp) (fun i hi => ?_)
      have hi' : i < xs.length := by simpa using hi
      have hvl : vs.length = xs.length := by have := hv.len; simpa using this
      have hiv : i < vs.length := by omega
      have h1 := hc i _ (List.getElem?_eq_getElem hiv)
      rw [add_plain] at h1
      rw [h1]
      have h2 := hv.rep i _ (.d (.int .u8 xs[i])) (List.getElem?_eq_getElem hiv) (by rw [hfl]; simp [hi'])
      rw [rep_int h2]
      simp [List.getD, hi']
  simp only [peval] at hp
  split at hp
  · rename_i es h1
    simp only [Option.some.injEq, Prod.mk.injEq] at hp
    obtain ⟨rfl, rfl⟩ := hp
    refine ok_pure rfl (fun g w ρ hx hf _ => ?_)
    have r1 := hx x (by simp [ho, Op.operands]); rw [h1] at r1
    exact ⟨_, frozen g w ρ es hf (rep_d r1) hob, .d (.str _)⟩
  · rename_i es tt h1
    simp only [Option.some.injEq, Prod.mk.injEq] at hp
    obtain ⟨rfl, rfl⟩ := hp
    refine ok_pure rfl (fun g w ρ hx hf _ => ?_)
    have r1 := hx x (by simp [ho, Op.operands]); rw [h1] at r1
    have r2 : RepD g.fr (ρ x) (.sl es) := by generalize ρ x = v at r1 ⊢; cases r1; assumption
    exact ⟨_, frozen g w ρ es hf r2 hob, .d (.str _)⟩
  · rename_i h1
    simp only [Option.some.injEq, Prod.mk.injEq] at hp
    obtain ⟨-, rfl⟩ := hp
    refine ok_pure rfl (fun g w ρ hx hf _ => ?_)
    have r1 := hx x (by simp [ho, Op.operands]); rw [h1] at r1
    generalize hv : ρ x = v at r1
    cases r1
    exact ⟨_, empty ρ w _ _ hv, .d (.str _)⟩
  · rename_i h1
    simp only [Option.some.injEq, Prod.mk.injEq] at hp
    obtain ⟨-, rfl⟩ := hp
    refine ok_pure rfl (fun g w ρ hx hf _ => ?_)
    have r1 := hx x (by simp [ho, Op.operands]); rw [h1] at r1
    generalize hv : ρ x = v at r1
    cases r1
    exact ⟨_, empty ρ w _ _ hv, .d (.str _)⟩
  · rename_i q off n z tt h1
    split at hp
    · rename_i cs hL
      simp only [Option.some.injEq, Prod.mk.injEq] at hp
      obtain ⟨rfl, rfl⟩ := hp
      obtain ⟨q1, q2⟩ := hob
      refine ok_pure rfl (fun g w ρ hx hf hr => ?_)
      have r1 := hx x (by simp [ho, Op.operands]); rw [h1] at r1
      have hq := hr q (by simp); rw [Lf_some hL] at hq
      obtain ⟨xs, hxs⟩ := bytes_own q2
      have hbo : bytesP ((cs.drop off).take n) = strOfNums xs := by
        rw [hxs]; unfold bytesP strOfNums
        congr 2
        rw [List.map_map]; rfl
      have hxl : xs.length = n := by
        have := congrArg List.length hxs
        simp at this; omega
      rw [hbo]
      generalize hv : ρ x = v at r1
      cases r1 with
      | osl _ _ _ _ cap b _ hb hl hs htt =>
        refine ⟨_, nonnil ρ w b off n cap xs hv hxl (fun i hi => ?_), .d (.str _)⟩
        have hget : cs[off + i]? = some (.d (.int .u8 (xs.getD i 0))) := by
          have : ((cs.drop off).take n)[i]? = cs[off + i]? := by rw [List.getElem?_take_of_lt hi, List.getElem?_drop]
          rw [← this, hxs]
          have : i < xs.length := by omega
          simp [this, List.getD]
        obtain ⟨u, c1, c2, c3⟩ := rel_cell hq hb hget
        rw [c1, rep_int c3]
      | osl0 =>
        have : xs = [] := List.eq_nil_of_length_eq_zero hxl
        subst this
        refine ⟨_, empty ρ w _ _ hv, ?_⟩
        exact .d (.str _)
    · cases hp
  · cases hp

/-- Bytes of a constant text: nobody writes to them here. -/
theorem snd_mark {t e : TypeId} {x : Operand} (ht : P.underlying t = some (.slice e)) (he : P.underlying e = some (.int .u8)) (ho : o.op = .convert t t x) (hp : peval env L (.mark x) = some (ob, out)) (hob : ob) : OpOK P o env (Lf L) out := by
  simp only [peval] at hp
  split at hp
  · rename_i q off n z tt h1
    split at hp
    · rename_i cs hL
      simp only [Option.some.injEq, Prod.mk.injEq] at hp
      obtain ⟨rfl, rfl⟩ := hp
      obtain ⟨rfl, rfl, hn1, hnl, hall⟩ := hob
      intro g w a K Q hx hf hr hu hn k
      have r1 := hx x (by simp [ho, Op.operands]); rw [h1] at r1
      have hq := hu q .dead (List.mem_singleton.2 rfl)
      rw [Lf_some hL] at hq
      generalize hv : a.eval x = v at r1
      cases r1 with
      | osl0 => omega
      | osl _ _ _ _ cap b _ hb hl hs htt =>
        rcases hq with ⟨e1, e2⟩ | ⟨b', c, el, e1, e2, e3, e4, e5, e6, e7⟩
        · rw [hb] at e2; cases e2
        · rw [hb] at e1; cases e1
          have hsh : w.shape? b = some (el, c.size) := by simp [World.shape?, e2]
          let w' : World := w.freeze ⟨b, c.size, none⟩ 1
          have hblt : b < w.heap.size := (Array.getElem?_eq_some_iff.1 e2).1
          have hw' : w'.heap[b]? = some (.cells c el (c.size, c.size + 1)) := by
            show (World.freeze w ⟨b, c.size, none⟩ 1).heap[b]? = _
            simp [World.freeze, Array.getElem?_modify, e2]
          have hother : ∀ b', b' ≠ b → w'.heap[b']? = w.heap[b']? := fun b' hne => by
            show (World.freeze w ⟨b, c.size, none⟩ 1).heap[b']? = _
            simp [World.freeze, Array.getElem?_modify, Ne.symm hne]
          have hcell : ∀ ad : Addr, w'.cell? ad = w.cell? ad := fun ad => by
            unfold World.cell?
            by_cases hne : ad.block = b
            · rw [hne, hw', e2]
            · rw [hother _ hne]
          have hrun : (execOp a.eval o).run P w = .ok (.value (.slice (some ⟨b, 0, none⟩) n cap)) w' := by
            simp [execOp, ho, hv, convert, run_underlying ht, run_underlying he, markStringish, hsh, w']
          let g1 : Gh := { g with fr := fun b' i => if b' = b then (if i < cs.length then c[i]? else none) else g.fr b' i }
          have mono : ∀ b' i v, g.fr b' i = some v → g1.fr b' i = some v := fun b' i v h => by
            show (if b' = b then (if i < cs.length then c[i]? else none) else g.fr b' i) = some v
            split
            · rename_i hb'; subst hb'; rw [e7 i] at h; cases h
            · exact h
          have hfl : ∀ (l : List PV), (∀ p ∈ l, ∃ x, p = PV.d x) → (l.map fun p => match p with | .d x => [x] | _ => []).flatten.map PV.d = l := by
            intro l
            induction l with
            | nil => intro _; rfl
            | cons p l ih =>
              intro h
              obtain ⟨y, rfl⟩ := h p (by simp)
              simp only [List.map_cons, List.flatten_cons, List.map_append, List.map_nil]
              rw [ih (fun q hq => h q (by simp [hq]))]; rfl
          have hcs := hfl cs hall
          have key : ∀ (kk : Nat) y, (cs.map fun p => match p with | .d x => [x] | _ => []).flatten[kk]? = some y → ∃ u, g1.fr b (0 + kk) = some u ∧ RepD g1.fr u y := by
            intro kk y hy
            have hy' : cs[kk]? = some (.d y) := by
              have := congrArg (fun l => l[kk]?) hcs
              simp only [List.getElem?_map, hy, Option.map_some] at this
              exact this.symm
            have hlt : kk < cs.length := (List.getElem?_eq_some_iff.1 hy').1
            have hck : kk < c.size := by omega
            have hrep := e6 kk c[kk] (.d y) (by simp [hck]) hy'
            generalize hck' : c[kk] = u at hrep
            cases hrep with
            | d hd =>
              refine ⟨u, ?_, hd.mono mono⟩
              show (if b = b then (if 0 + kk < cs.length then c[0 + kk]? else none) else g.fr b (0 + kk)) = some u
              simp [hlt, hck, hck']
          refine wp_of_value hrun (k _ g1 w' ?_ ?_)
          · refine .d (.sl b 0 cap 1 n _ (fun kk => (g1.fr b (0 + kk)).getD undef) (by simpa using hnl) hl (fun e0 he0 => ?_) (fun kk y hy => ?_) (fun kk y hy => ?_))
            · obtain ⟨p, hp, hpe⟩ := List.mem_map.1 he0
              obtain ⟨y, hy⟩ := hall p hp
              rw [← hpe, hy]; rfl
            · obtain ⟨u, hu', _⟩ := key kk y hy
              show g1.fr b (0 + kk) = some ((g1.fr b (0 + kk)).getD undef)
              rw [hu']; rfl
            · obtain ⟨u, hu', hr'⟩ := key kk y hy
              show RepD g1.fr ((g1.fr b (0 + kk)).getD undef) y
              rw [hu']; exact hr'
          · have liveq : Live (Lf L q) = true := by rw [Lf_some hL]; rfl
            exact {
              os := by simp [w', World.freeze]
              tape := by simp [w', World.freeze]
              output := by simp [w', World.freeze]
              size := by simp [w', World.freeze]
              block := fun b' hb' hx' => hother b' (fun e => hx' q _ (List.mem_singleton.2 rfl) liveq (by rw [e]; exact hb))
              le := ⟨mono, fun o b h => ⟨h, rfl⟩⟩
              at_ := fun _ _ => rfl
              keep := fun _ _ => rfl
              frn := fun b' i v h => by
                have h : (if b' = b then (if i < cs.length then c[i]? else none) else g.fr b' i) = some v := h
                split at h
                · rename_i hb'; subst hb'
                  exact .inr (.inr ⟨q, _, List.mem_singleton.2 rfl, liveq, hb⟩)
                · exact .inl h
              frok := fun b' i v h => by
                have h2 : (if b' = b then (if i < cs.length then c[i]? else none) else g.fr b' i) = some v := h
                clear h
                rw [hcell]
                by_cases hb' : b' = b
                · rw [if_pos hb'] at h2
                  rw [hb']
                  by_cases hi : i < cs.length
                  · rw [if_pos hi] at h2
                    simp only [World.cell?, e2]
                    simpa using h2
                  · rw [if_neg hi] at h2; cases h2
                · rw [if_neg hb'] at h2
                  exact hf b' i v h2
              obj := fun n ob hm => by
                have := List.mem_singleton.1 hm
                cases this; trivial
              own := fun n ob hm hl => by
                have := List.mem_singleton.1 hm
                cases this; cases hl
              inj := fun n ob m om b hm _ hl => by
                have := List.mem_singleton.1 hm
                cases this; cases hl }
    · cases hp
  · cases hp

end sound
end Go.Fw
