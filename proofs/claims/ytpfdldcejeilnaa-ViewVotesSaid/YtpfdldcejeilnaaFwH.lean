import Derived.Test.YtpfdldcejeilnaaFwG
import Derived.Laws.BytesArg
set_option linter.unusedVariables false
set_option linter.unusedSimpArgs false
namespace Go.Fw
open Go
section sound
variable {P : Program} {o : Oper} {env : List PV} {L : List PObj} {ob : Prop} {out : Out}

theorem run_bound (w : World) (k : IntKind) (n : Int) (y : Nat) (c : BoundsCode) (h0 : 0 ≤ n) (h1 : n ≤ y) : (Instr.sliceBound (.int k n) y c).run P w = .ok n.toNat w := by
  simp [Instr.sliceBound, asIntOf, h0, h1]

/-- The bounds of a slice expression, computed. -/
theorem run_bnds {g : Gh} {lo hi mx : Option Operand} {ρ : Operand → Value} {len cap : Nat} {l h m : Int} (isSl : Bool) (w : World) (hb : bnds env len lo hi mx = some (l, h, m)) (hlc : len ≤ cap)
    (hr : ∀ x, lo = some x ∨ hi = some x ∨ mx = some x → Rep g (ρ x) (ev env x)) (hl : 0 ≤ l) (hlh : l ≤ h) (hhm : h ≤ m) (hml : m ≤ len) :
    (Instr.sliceBounds isSl len cap (lo.map ρ) (hi.map ρ) (mx.map ρ)).run P w = .ok (l.toNat, h.toNat, if mx.isSome then m.toNat else cap) w ∨ (mx.isSome = true ∧ hi.isSome = false) := by
  have get : ∀ (d : Int) (x : Option Operand) (n : Int), bnd env d x = some n → (x = lo ∨ x = hi ∨ x = mx) → (x = none ∧ n = d) ∨ ∃ y k, x = some y ∧ ρ y = .int k n := by
    intro d x n hx hm
    cases x with
    | none => simp only [bnd, Option.some.injEq] at hx; exact .inl ⟨rfl, hx.symm⟩
    | some y =>
      simp only [bnd] at hx
      obtain ⟨k, hk⟩ := idx_some hx
      have := hr y (by rcases hm with h | h | h <;> simp [← h])
      rw [hk] at this
      exact .inr ⟨y, k, rfl, rep_int this⟩
  unfold bnds at hb
  cases h1 : bnd env 0 lo with
  | none => simp [h1] at hb
  | some l' =>
    cases h2 : bnd env len hi with
    | none => simp [h1, h2] at hb
    | some h' =>
      cases h3 : bnd env len mx with
      | none => simp [h1, h2, h3] at hb
      | some m' =>
        simp only [h1, h2, h3, Option.some.injEq, Prod.mk.injEq] at hb
        obtain ⟨rfl, rfl, rfl⟩ := hb
        have b0 : (0 : Int) ≤ h' := by omega
        have b1 : (0 : Int) ≤ m' := by omega
        have hcap : (len : Int) ≤ cap := by exact_mod_cast hlc
        have em : ((m'.toNat : Nat) : Int) = m' := Int.toNat_of_nonneg b1
        have eh : ((h'.toNat : Nat) : Int) = h' := Int.toNat_of_nonneg b0
        rcases get _ mx m' h3 (by simp) with ⟨rfl, rfl⟩ | ⟨xm, km, rfl, hm⟩
        · left
          rcases get _ hi h' h2 (by simp) with ⟨rfl, rfl⟩ | ⟨xh, kh, rfl, hh⟩ <;> rcases get _ lo l' h1 (by simp) with ⟨rfl, rfl⟩ | ⟨xl, kl, rfl, hlo⟩
          · simp [Instr.sliceBounds]
          · simp [Instr.sliceBounds, hlo, run_bound (P := P) w kl l' len .sliceB hl (by omega)]
          · simp [Instr.sliceBounds, hh, run_bound (P := P) w kh h' cap _ b0 (by omega)]
          · simp [Instr.sliceBounds, hlo, hh, run_bound (P := P) w kh h' cap _ b0 (by omega), run_bound (P := P) w kl l' h'.toNat .sliceB hl (by omega)]
        · rcases get _ hi h' h2 (by simp) with ⟨rfl, rfl⟩ | ⟨xh, kh, rfl, hh⟩
          · right; exact ⟨rfl, rfl⟩
          · left
            rcases get _ lo l' h1 (by simp) with ⟨rfl, rfl⟩ | ⟨xl, kl, rfl, hlo⟩
            · simp [Instr.sliceBounds, hm, hh, run_bound (P := P) w km m' cap _ b1 (by omega), run_bound (P := P) w kh h' m'.toNat _ b0 (by omega)]
            · simp [Instr.sliceBounds, hlo, hm, hh, run_bound (P := P) w km m' cap _ b1 (by omega), run_bound (P := P) w kh h' m'.toNat _ b0 (by omega), run_bound (P := P) w kl l' h'.toNat _ hl (by omega)]

theorem flat_drop {α : Type} {z : Nat} : ∀ {es : List (List α)} (_ : ∀ e ∈ es, e.length = z) (l : Nat), (es.drop l).flatten = es.flatten.drop (l * z)
  | [], _, l => by simp
  | x :: xs, h, 0 => by simp
  | x :: xs, h, l + 1 => by
    have hx := h x (by simp)
    rw [List.drop_succ_cons, flat_drop (fun e he => h e (by simp [he])) l, List.flatten_cons, List.drop_append, hx]
    have : (l + 1) * z - z = l * z := by rw [Nat.succ_mul]; omega
    have e : List.drop ((l + 1) * z) x = [] := List.drop_eq_nil_of_le (by rw [hx, Nat.succ_mul]; omega)
    rw [this, e, List.nil_append]

/-- A frozen slice, cut. -/
theorem repd_cut {fr : Nat → Nat → Option Value} {a : Option Addr} {n cap z l h mm : Nat} {es : List (List DV)} (hr : RepD fr (.slice a n cap) (.sl es)) (hz : ∀ e ∈ es, e.length = z)
    (hlh : l ≤ h) (hhn : h ≤ es.length) (hm : h ≤ mm) (hmm : mm ≤ cap) :
    RepD fr (.slice (if mm = l then a else a.map (·.add (l * z))) (h - l) (mm - l)) (.sl ((es.drop l).take (h - l))) := by
  have base : ∀ A : Option Addr, (A = none → mm - l = 0) → h = l → RepD fr (.slice A (h - l) (mm - l)) (.sl ((es.drop l).take (h - l))) := by
    intro A hA e; subst e; simp; exact .sl0 _ _ hA
  have hnone : a = none → cap = 0 := by
    intro ha; subst ha
    cases hr with
    | sl0 _ _ h => exact h rfl
  by_cases e : h = l
  · refine base _ (fun hA => ?_) e
    by_cases hml : mm = l
    · omega
    · rw [if_neg hml] at hA
      have := hnone (by cases a with | none => rfl | some a => cases hA)
      omega
  have hne : mm ≠ l := by omega
  rw [if_neg hne]
  cases hr with
  | sl0 a cap _ => simp at hhn; omega
  | sl b off _ sz _ _ f h1 h2 h3 h4 h5 =>
    have hsz : sz = z := by
      cases es with
      | nil => simp at hhn; omega
      | cons x xs => rw [← h3 x (by simp), hz x (by simp)]
    subst hsz
    simp only [Option.map_some, add_plain]
    have get : ∀ k c, (((es.drop l).take (h - l)).flatten)[k]? = some c → es.flatten[l * sz + k]? = some c := by
      intro k c hk
      have hpre : ((es.drop l).take (h - l)).flatten <+: (es.drop l).flatten := by
        refine ⟨((es.drop l).drop (h - l)).flatten, ?_⟩
        rw [← List.flatten_append, List.take_append_drop]
      obtain ⟨t, ht⟩ := hpre
      have : ((es.drop l).flatten)[k]? = some c := by
        rw [← ht, List.getElem?_append_left (List.getElem?_eq_some_iff.1 hk).1]; exact hk
      rw [flat_drop h3, List.getElem?_drop] at this
      exact this
    refine .sl b (off + l * sz) (mm - l) sz _ _ (fun k => f (l * sz + k)) (by simp; omega) (by omega) (fun e he => h3 e (List.mem_of_mem_drop (List.mem_of_mem_take he))) (fun k c hk => ?_) (fun k c hk => ?_)
    · have := h4 _ c (get k c hk)
      rw [← this]; congr 1; omega
    · exact h5 _ c (get k c hk)

theorem slice_le {fr : Nat → Nat → Option Value} {v : Value} {es : List (List DV)} (h : RepD fr v (.sl es)) : ∀ a n cap, v = .slice a n cap → n ≤ cap := by
  intro a n cap e
  cases h with
  | sl0 a' cap' _ => cases e; exact Nat.zero_le _
  | sl b off cap' sz n' _ f h1 h2 h3 h4 h5 => cases e; exact h2

theorem bnds_none {len : Nat} {lo hi mx : Option Operand} {l h m : Int} (hb : bnds env len lo hi mx = some (l, h, m)) (hm : mx.isSome = false) : m = len := by
  have : mx = none := by simpa using hm
  subst this
  unfold bnds at hb
  simp only [bnd] at hb
  split at hb
  · rename_i h2 h3 h4
    cases h4
    simp only [Option.some.injEq, Prod.mk.injEq] at hb
    exact hb.2.2.symm
  · cases hb

/-- Where the room is known to end with the elements. -/
theorem tight_of {len cap : Nat} {lo hi mx : Option Operand} {l h m : Int} {tt : Bool} (hb : bnds env len lo hi mx = some (l, h, m)) (htt : tt = true → cap = len) (hc : ((mx.isSome || tt) && m == h) = true) :
    (if mx.isSome then m.toNat else cap) = h.toNat := by
  simp only [Bool.and_eq_true, Bool.or_eq_true, beq_iff_eq] at hc
  obtain ⟨hc1, hc2⟩ := hc
  cases hm : mx.isSome with
  | true => simp [hc2]
  | false =>
    rw [hm] at hc1
    have e1 := htt (by simpa using hc1)
    have e2 := bnds_none hb hm
    simp only [Bool.false_eq_true, if_false]
    omega

theorem mem_opt {lo hi mx : Option Operand} {x y : Operand} (h : lo = some y ∨ hi = some y ∨ mx = some y) : y ∈ (#[x] ++ lo.toArray ++ hi.toArray ++ mx.toArray).toList := by
  rcases h with rfl | rfl | rfl <;> simp

theorem snd_slice {t e : TypeId} {z : Nat} {x : Operand} {lo hi mx : Option Operand} (ht : P.underlying t = some (.slice e)) (hz : szOf P e = some z) (hmx : mx.isSome = true → hi.isSome = true) (ho : o.op = .slice t x lo hi mx)
    (hp : peval env L (.slice z x lo hi mx) = some (ob, out)) (hob : ob) : OpOK P o env (Lf L) out := by
  have run : ∀ (g : Gh) (w : World) (ρ : Operand → Value) (a : Option Addr) (n cap : Nat) (l h m : Int), (∀ x ∈ o.op.operands.toList, Rep g (ρ x) (ev env x)) → ρ x = .slice a n cap → n ≤ cap → bnds env n lo hi mx = some (l, h, m) →
      0 ≤ l → l ≤ h → h ≤ m → m ≤ n →
      (execOp ρ o).run P w = .ok (.value (.slice (if (if mx.isSome then m.toNat else cap) = l.toNat then a else a.map (·.add (l.toNat * z))) (h.toNat - l.toNat) ((if mx.isSome then m.toNat else cap) - l.toNat))) w := by
    intro g w ρ a n cap l h m hx hv hle hb h1 h2 h3 h4
    have := run_bnds (P := P) (g := g) (ρ := ρ) true w hb hle (fun y hy => hx y (by rw [ho]; exact mem_opt hy)) h1 h2 h3 h4
    rcases this with hrun | ⟨e1, e2⟩
    · simp [execOp, ho, Instr.sliceAt, run_underlying ht, Instr.slice, hv, hrun, run_szOf hz]
    · rw [hmx e1] at e2; cases e2
  have mm_le : ∀ (n cap : Nat) (h m : Int), n ≤ cap → 0 ≤ h → h ≤ m → m ≤ n → h.toNat ≤ (if mx.isSome then m.toNat else cap) ∧ (if mx.isSome then m.toNat else cap) ≤ cap := by
    intro n cap h m a b c d
    split <;> omega
  simp only [peval] at hp
  split at hp
  · rename_i es h1
    split at hp
    · rename_i l h m hb
      simp only [Option.some.injEq, Prod.mk.injEq] at hp
      obtain ⟨rfl, rfl⟩ := hp
      obtain ⟨q1, q2, q3, q4, q5⟩ := hob
      refine ok_pure rfl (fun g w ρ hx _ _ => ?_)
      have r1 := hx x (by simp [ho, Op.operands]); rw [h1] at r1
      have r1 := rep_d r1
      obtain ⟨a, cap, hv, -⟩ := slice_base r1
      have hle : es.length ≤ cap := slice_le r1 _ _ _ hv
      have hmm := mm_le es.length cap h m hle (by omega) q3 q4
      have hrun := run g w ρ a _ cap l h m hx hv hle hb q1 q2 q3 q4
      refine ⟨_, hrun, ?_⟩
      rw [hv] at r1
      have hmd : (mx.isSome && m == 0) = true → (if mx.isSome then m.toNat else cap) = 0 := fun hc => by
        simp only [Bool.and_eq_true, beq_iff_eq] at hc
        rw [if_pos hc.1, hc.2]; rfl
      generalize (if mx.isSome then m.toNat else cap) = mm at hmm hmd hrun ⊢
      have cut := repd_cut (l := l.toNat) (h := h.toNat) (mm := mm) r1 q5 (by omega) (by omega) hmm.1 hmm.2
      by_cases hc : (mx.isSome && m == 0) = true
      · simp only [Out.pure, if_pos hc]
        have e0 := hmd hc
        have e2 : h.toNat - l.toNat = 0 := by omega
        have e3 : mm - l.toNat = 0 := by omega
        rw [e2, e3]; exact .zsl _
      · simp only [Out.pure, if_neg hc]; exact .d cut
    · cases hp
  · rename_i es tt h1
    split at hp
    · rename_i l h m hb
      simp only [Option.some.injEq, Prod.mk.injEq] at hp
      obtain ⟨rfl, rfl⟩ := hp
      obtain ⟨q1, q2, q3, q4, q5⟩ := hob
      refine ok_pure rfl (fun g w ρ hx _ _ => ?_)
      have r1 := hx x (by simp [ho, Op.operands]); rw [h1] at r1
      generalize hv : ρ x = v at r1
      cases r1 with
      | fsl _ a n cap _ r2 htt =>
        obtain ⟨a', cap', hv', -⟩ := slice_base r2
        cases hv'
        have hle : es.length ≤ cap := slice_le r2 _ _ _ rfl
        have hmm := mm_le es.length cap h m hle (by omega) q3 q4
        have hrun := run g w ρ (some a) _ cap l h m hx hv hle hb q1 q2 q3 q4
        refine ⟨_, hrun, ?_⟩
        have tight := tight_of hb htt
        generalize (if mx.isSome then m.toNat else cap) = mm at hmm tight hrun ⊢
        have cut := repd_cut (l := l.toNat) (h := h.toNat) (mm := mm) r2 q5 (by omega) (by omega) hmm.1 hmm.2
        have hA : ∃ A, (if mm = l.toNat then some a else (some a).map (·.add (l.toNat * z))) = some A := by split <;> exact ⟨_, rfl⟩
        obtain ⟨A, hA⟩ := hA
        rw [hA] at cut ⊢
        exact .fsl _ A _ _ _ cut (fun hc => by have := tight hc; omega)
    · cases hp
  · rename_i h1
    split at hp
    · rename_i l h m hb
      simp only [Option.some.injEq, Prod.mk.injEq] at hp
      obtain ⟨rfl, rfl⟩ := hp
      obtain ⟨rfl, rfl, rfl⟩ := hob
      refine ok_pure rfl (fun g w ρ hx _ _ => ?_)
      have r1 := hx x (by simp [ho, Op.operands]); rw [h1] at r1
      generalize hv : ρ x = v at r1
      cases r1
      refine ⟨_, run g w ρ none 0 0 0 0 0 hx hv (Nat.le_refl _) hb (by omega) (by omega) (by omega) (by omega), ?_⟩
      simp; exact .nilsl
    · cases hp
  · rename_i h1
    split at hp
    · rename_i l h m hb
      simp only [Option.some.injEq, Prod.mk.injEq] at hp
      obtain ⟨rfl, rfl⟩ := hp
      obtain ⟨rfl, rfl, rfl⟩ := hob
      refine ok_pure rfl (fun g w ρ hx _ _ => ?_)
      have r1 := hx x (by simp [ho, Op.operands]); rw [h1] at r1
      generalize hv : ρ x = v at r1
      cases r1
      refine ⟨_, run g w ρ _ 0 0 0 0 0 hx hv (Nat.le_refl _) hb (by omega) (by omega) (by omega) (by omega), ?_⟩
      simp; exact .zsl _
    · cases hp
  · rename_i q off n z' tt h1
    split at hp
    · rename_i l h m hb
      split at hp
      · rename_i hzz; subst hzz
        simp only [Option.some.injEq, Prod.mk.injEq] at hp
        obtain ⟨rfl, rfl⟩ := hp
        obtain ⟨q1, q2, q3, q4⟩ := hob
        refine ok_pure rfl (fun g w ρ hx _ _ => ?_)
        have r1 := hx x (by simp [ho, Op.operands]); rw [h1] at r1
        generalize hv : ρ x = v at r1
        cases r1 with
        | osl _ _ _ _ cap b _ hb1 hle hsz htt =>
          have hmm := mm_le n cap h m hle (by omega) q3 q4
          have hrun := run g w ρ (some ⟨b, off, none⟩) _ cap l h m hx hv hle hb q1 q2 q3 q4
          refine ⟨_, hrun, ?_⟩
          have tight := tight_of hb htt
          generalize (if mx.isSome then m.toNat else cap) = mm at hmm tight hrun ⊢
          by_cases hml : mm = l.toNat
          · have e1 : h.toNat - l.toNat = 0 := by omega
            have e2 : mm - l.toNat = 0 := by omega
            simp only [Out.pure, e1, e2]; exact .osl0 _ _ _ _ _
          · rw [if_neg hml]
            simp only [Option.map_some, add_plain]
            refine .osl _ _ _ _ _ b _ hb1 (by omega) ?_ (fun hc => by have := tight hc; omega)
            have hmul : (l.toNat + (mm - l.toNat)) * z' ≤ cap * z' := Nat.mul_le_mul_right _ (by omega)
            rw [Nat.add_mul] at hmul
            omega
        | osl0 =>
          have hmm := mm_le 0 0 h m (Nat.le_refl _) (by omega) q3 q4
          refine ⟨_, run g w ρ _ 0 0 l h m hx hv (Nat.le_refl _) hb q1 q2 q3 q4, ?_⟩
          have e1 : h.toNat - l.toNat = 0 := by omega
          have e2 : (if mx.isSome then m.toNat else 0) - l.toNat = 0 := by split <;> omega
          simp only [Out.pure, e1, e2]; exact .osl0 _ _ _ _ _
      · cases hp
    · cases hp
  · cases hp

end sound
end Go.Fw
