import Derived.Test.YtpfdldcejeilnaaFwI
set_option linter.unusedVariables false
set_option linter.unusedSimpArgs false
namespace Go.Fw
open Go
section sound
variable {P : Program} {o : Oper} {env : List PV} {L : List PObj} {ob : Prop} {out : Out}

/-- What 'resolve' cannot see by itself: a slice's third bound stands beside a second one; a struct's fields have sizes. -/
def opFine (P : Program) (o : Oper) : Bool :=
  match o.op with
  | .slice _ _ _ hi mx => !mx.isSome || hi.isSome
  | .build t _ =>
    match P.underlying t with
    | some (.struct fs) => fs.all fun f => (szOf P f.type).isSome
    | _ => true
  | .convert s t _ => (P.underlying s).isSome
  | _ => true

theorem sound {po : POp} (hr : resolve P o = some po) (hfine : opFine P o = true) (hp : peval env L po = some (ob, out)) (hob : ob) : OpOK P o env (Lf L) out := by
  unfold resolve at hr
  split at hr
  case h_1 x ho => cases hr; exact snd_move (.inl ho) hp
  case h_2 x ho => cases hr; exact snd_move (.inr ho) hp
  case h_3 c a b ho => cases hr; exact snd_pick ho hp
  case h_4 e ho =>
    cases hz : zcells P e with
    | none => rw [hz] at hr; cases hr
    | some zs => rw [hz] at hr; cases hr; exact snd_alloc hz ho hp
  case h_5 e x ho =>
    cases hz : szOf P e with
    | none => rw [hz] at hr; cases hr
    | some n => rw [hz] at hr; cases hr; exact snd_box ho hp hob
  case h_6 t parts ho =>
    split at hr
    · rename_i fs zs ht hz
      cases hps : parts.toList.mapM (partPlace P fs) with
      | none => rw [hps] at hr; cases hr
      | some ps =>
        rw [hps] at hr; cases hr
        refine snd_build_struct ht hz (fun f hf => ?_) hps ho hp
        simp only [opFine, ho, ht, Array.all_eq_true_iff_forall_mem] at hfine
        exact Option.isSome_iff_exists.1 (hfine f hf)
    · rename_i m e zs ht hz
      cases hn : szOf P e with
      | none => rw [hn] at hr; cases hr
      | some n => rw [hn] at hr; cases hr; exact snd_build_array ht hz hn ho hp
    · cases hr
  case h_7 t len parts ho =>
    split at hr
    · rename_i e ht
      split at hr
      · rename_i n zs hn hz
        split at hr
        · rename_i hc; cases hr; exact snd_bslice ht hz hn hc.1 hc.2 ho hp
        · cases hr
      · cases hr
    · cases hr
  case h_8 t a ho =>
    split at hr
    · rename_i n ha hz; cases hr; exact snd_loadN ha hz ho hp hob
    · rename_i ha; cases hr; exact snd_load1 ha ho hp
    · cases hr
  case h_9 t a v ho =>
    cases hz : szOf P t with
    | none => rw [hz] at hr; cases hr
    | some n => rw [hz] at hr; cases hr; exact snd_store hz ho hp hob
  case h_10 x ho => cases hr; exact snd_nilc ho hp
  case h_11 op t x y u ho =>
    split at hr
    · cases hr; exact snd_bin ho hp hob
    · cases hr; exact snd_bin ho hp hob
    · rename_i ht
      split at hr
      · cases hr; exact snd_binB (neq := false) ht rfl ho hp
      · cases hr; exact snd_binB (neq := true) ht rfl ho hp
      · cases hr
    · rename_i e ht
      split at hr
      · cases hr; exact snd_isnil (neq := false) rfl ho (.inl ⟨rfl, e, ht, rfl⟩) hp
      · cases hr; exact snd_isnil (neq := true) rfl ho (.inl ⟨rfl, e, ht, rfl⟩) hp
      · cases hr
    · rename_i e ht
      split at hr
      · cases hr; exact snd_isnil (neq := false) rfl ho (.inr (.inl ⟨rfl, e, ht, rfl⟩)) hp
      · cases hr; exact snd_isnil (neq := true) rfl ho (.inr (.inl ⟨rfl, e, ht, rfl⟩)) hp
      · cases hr
    · rename_i p q v ht
      split at hr
      · cases hr; exact snd_isnil (neq := false) rfl ho (.inr (.inr (.inl ⟨rfl, p, q, v, ht, rfl⟩))) hp
      · cases hr; exact snd_isnil (neq := true) rfl ho (.inr (.inr (.inl ⟨rfl, p, q, v, ht, rfl⟩))) hp
      · cases hr
    · rename_i k e ht
      split at hr
      · cases hr; exact snd_isnil (neq := false) rfl ho (.inr (.inr (.inr ⟨rfl, k, e, ht, rfl⟩))) hp
      · cases hr; exact snd_isnil (neq := true) rfl ho (.inr (.inr (.inr ⟨rfl, k, e, ht, rfl⟩))) hp
      · cases hr
    · cases hr
  case h_12 op t x ho => cases hr; exact snd_un ho hp
  case h_13 s t x ho =>
    split at hr
    · rename_i k0 k hs ht; cases hr; exact snd_conv ht (by rw [hs]; rfl) ho hp
    · rename_i e hs ht
      split at hr
      · rename_i he
        cases hr
        refine snd_b2s hs ?_ ht ho hp hob
        cases hu : P.underlying e with
        | none => rw [hu] at he; simp at he
        | some d =>
          rw [hu] at he
          cases d <;> simp at he
          rename_i k
          cases k <;> simp at he
          rfl
      · cases hr
    · split at hr
      · rename_i he
        cases hr
        simp only [Bool.and_eq_true, beq_iff_eq] at he
        obtain ⟨he, rfl⟩ := he
        obtain ⟨e, h1, h2⟩ := isBytes_spec he
        exact snd_mark h1 h2 ho hp hob
      · cases hr
  case h_14 x i ho => cases hr; exact snd_extract ho hp
  case h_15 s x i ho =>
    split at hr
    · rename_i fs hs
      split at hr
      · rename_i f hf
        split at hr
        · rename_i n hn
          split at hr
          · cases hr
          · rename_i h0; cases hr; exact snd_faddr hs hf hn h0 ho hp
        · cases hr
      · cases hr
    · cases hr
  case h_16 s x i ho =>
    split at hr
    · rename_i fs hs
      split at hr
      · rename_i f hf
        split at hr
        · rename_i n ha hn; cases hr; exact snd_fieldN hs hf ha hn ho hp hob
        · rename_i ha; cases hr; exact snd_field1 hs hf ha ho hp
        · cases hr
      · cases hr
    · cases hr
  case h_17 t x i ho =>
    split at hr
    · rename_i e ht
      cases hn : szOf P e with
      | none => rw [hn] at hr; cases hr
      | some n => rw [hn] at hr; cases hr; exact snd_iaddr ht hn ho hp hob
    · rename_i m e ht
      cases hn : szOf P e with
      | none => rw [hn] at hr; cases hr
      | some n => rw [hn] at hr; cases hr; exact snd_iaddrA ht hn ho hp hob
    · cases hr
  case h_18 t x i ho =>
    split at hr
    · rename_i ht; cases hr; exact snd_idxS ht ho hp hob
    · cases hr
  case h_19 t x lo hi mx ho =>
    have hmx : mx.isSome = true → hi.isSome = true := fun h => by
      simp only [opFine, ho, h, Bool.not_true, Bool.false_or] at hfine; exact hfine
    split at hr
    · rename_i e ht
      cases hn : szOf P e with
      | none => rw [hn] at hr; cases hr
      | some n => rw [hn] at hr; cases hr; exact snd_slice ht hn hmx ho hp hob
    · rename_i m e ht
      cases hn : szOf P e with
      | none => rw [hn] at hr; cases hr
      | some n => rw [hn] at hr; cases hr; exact snd_sliceA ht hn hmx ho hp hob
    · rename_i ht
      split at hr
      · cases hr; exact snd_sliceS ht ho hp hob
      · cases hr
    · cases hr
  case h_20 t l c ho =>
    split at hr
    · rename_i e ht
      split at hr
      · rename_i i zs hi hz
        split at hr
        · rename_i h0; cases hr; exact snd_mkslice ht hi hz h0 ho hp hob
        · cases hr
      · cases hr
    · cases hr
  case h_21 f first caps ho =>
    split at hr
    · rename_i hf; cases hr; exact snd_mkfn hf ho hp
    · cases hr
  case h_22 args at_ ho =>
    split at hr
    · rename_i t x hat ha
      split at hr
      · rename_i ht; cases hr; exact snd_lenS ht rfl ha hat ho hp
      · rename_i e ht; cases hr; exact snd_len ht rfl ha hat ho hp
      · cases hr
    · cases hr
  case h_23 args at_ ho =>
    split at hr
    · rename_i x y ha; cases hr; exact snd_minmax (mx := false) rfl ha ho hp
    · cases hr
  case h_24 args at_ ho =>
    split at hr
    · rename_i x y ha; cases hr; exact snd_minmax (mx := true) rfl ha ho hp
    · cases hr
  case h_25 args at_ ho =>
    split at hr
    · rename_i t u x y hat ha
      split at hr
      · rename_i htu; subst htu
        split at hr
        · rename_i e ht
          split at hr
          · rename_i i zs hi hz
            split at hr
            · rename_i h0; cases hr; exact snd_append ht hi hz h0 rfl ha hat ho hp hob
            · cases hr
          · cases hr
        · cases hr
      · cases hr
    · cases hr
  case h_26 f args at_ ho => cases hr; simp [peval] at hp
  case h_27 t args at_ ho => cases hr; simp [peval] at hp
  case h_28 => cases hr

end sound
end Go.Fw
