import Derived.Calls
import Derived.Orders
import Derived.Below
set_option linter.unusedVariables false
set_option linter.unusedSimpArgs false
namespace Go.Fw
open Go

/-! ### Plain data, values, objects -/

/-- Data without a way into memory that may change. 'sl': the elements of a slice, each by its cells. -/
inductive DV where
  | int (k : IntKind) (n : Int)
  | bool (b : Bool)
  | str (s : ByteArray)
  | nilp
  | nilf
  | sl (es : List (List DV))
  deriving Inhabited

/-- What a walk knows of a value. 'ptr o off': cell off of object o. 'fptr e off': cell off of an element of a frozen slice, whose cells are e. 'osl o off len z t': a slice over object o's cells from off on, z cells an element (t: its capacity is its length). 'fsl es t': a frozen slice that is not nil (t: as before). 'nilsl': the nil slice. 'zsl': one without elements and without room. 'und': what a skipped operation leaves. 'dead': nothing is known. -/
inductive PV where
  | d (x : DV)
  | agg (cs : List PV)
  | ptr (o off : Nat)
  | fptr (e : List DV) (off : Nat)
  | osl (o off len esz : Nat) (tight : Bool)
  | fsl (es : List (List DV)) (tight : Bool)
  | nilsl
  | zsl
  | fn (f : FuncId) (first caps : List PV)
  | map (o : Nat)
  | tup (vs : List PV)
  | und
  | dead
  deriving Inhabited

/-- An object: the cells of a variable or an array, as they are now; or as they stay for ever. -/
inductive PObj where
  | arr (cs : List PV)
  | froz (cs : List DV)
  | mp (es : List (PV × PV))
  | dead
  deriving Inhabited

/-- What is said of memory: cells that stay as they are, and which block an object has. -/
structure Gh where
  fr : Nat → Nat → Option Value
  at_ : Nat → Option Nat
  sz : Nat → Nat

/-- One cell's value. -/
def one : Value → Bool
  | .agg _ | .tuple _ => false
  | _ => true

inductive RepD (fr : Nat → Nat → Option Value) : Value → DV → Prop
  | int (k : IntKind) (n : Int) : RepD fr (.int k n) (.int k n)
  | bool (b : Bool) : RepD fr (.bool b) (.bool b)
  | str (s : ByteArray) : RepD fr (.string s) (.str s)
  | nilp : RepD fr (.pointer none) .nilp
  | nilf : RepD fr .nilFunc .nilf
  | sl0 (a : Option Addr) (cap : Nat) : (a = none → cap = 0) → RepD fr (.slice a 0 cap) (.sl [])
  | sl (b off cap sz n : Nat) (es : List (List DV)) (f : Nat → Value) : n = es.length → n ≤ cap → (∀ e ∈ es, e.length = sz) →
      (∀ (k : Nat) c, es.flatten[k]? = some c → fr b (off + k) = some (f k)) →
      (∀ (k : Nat) c, es.flatten[k]? = some c → RepD fr (f k) c) → RepD fr (.slice (some ⟨b, off, none⟩) n cap) (.sl es)

theorem RepD.mono {fr fr' : Nat → Nat → Option Value} (h : ∀ b i v, fr b i = some v → fr' b i = some v) {v : Value} {x : DV} (r : RepD fr v x) : RepD fr' v x := by
  induction r with
  | int k n => exact .int k n
  | bool b => exact .bool b
  | str s => exact .str s
  | nilp => exact .nilp
  | nilf => exact .nilf
  | sl0 a cap h => exact .sl0 a cap h
  | sl b off cap sz n es f h1 h2 h3 h4 h5 ih => exact .sl b off cap sz n es f h1 h2 h3 (fun k c hk => h _ _ _ (h4 k c hk)) ih

theorem RepD.one {fr : Nat → Nat → Option Value} {v : Value} {x : DV} (r : RepD fr v x) : one v = true := by
  cases r <;> rfl

/-- Cells from (b, o) on that stay, and read as e. -/
def FrozenAt (fr : Nat → Nat → Option Value) (b o : Nat) (e : List DV) : Prop :=
  ∀ (k : Nat) c, e[k]? = some c → ∃ v, fr b (o + k) = some v ∧ RepD fr v c

theorem FrozenAt.mono {fr fr' : Nat → Nat → Option Value} (h : ∀ b i v, fr b i = some v → fr' b i = some v) {b o : Nat} {e : List DV} (r : FrozenAt fr b o e) : FrozenAt fr' b o e :=
  fun k c hk => let ⟨v, h1, h2⟩ := r k c hk; ⟨v, h _ _ _ h1, h2.mono h⟩

inductive Rep (g : Gh) : Value → PV → Prop
  | d {v : Value} {x : DV} : RepD g.fr v x → Rep g v (.d x)
  | agg (vs : List Value) (cs : List PV) : vs.length = cs.length → (∀ (i : Nat) v, vs[i]? = some v → one v = true) →
      (∀ (i : Nat) v c, vs[i]? = some v → cs[i]? = some c → Rep g v c) → Rep g (.agg vs.toArray) (.agg cs)
  | ptr (o off b : Nat) : g.at_ o = some b → Rep g (.pointer (some ⟨b, off, none⟩)) (.ptr o off)
  | fptr (e : List DV) (off b base : Nat) : FrozenAt g.fr b base e → Rep g (.pointer (some ⟨b, base + off, none⟩)) (.fptr e off)
  | osl (o off len z cap b : Nat) (t : Bool) : g.at_ o = some b → len ≤ cap → off + cap * z ≤ g.sz o → (t = true → cap = len) → Rep g (.slice (some ⟨b, off, none⟩) len cap) (.osl o off len z t)
  | osl0 (o off z : Nat) (a : Option Addr) (t : Bool) : Rep g (.slice a 0 0) (.osl o off 0 z t)
  | fsl (es : List (List DV)) (a : Addr) (n cap : Nat) (t : Bool) : RepD g.fr (.slice (some a) n cap) (.sl es) → (t = true → cap = n) → Rep g (.slice (some a) n cap) (.fsl es t)
  | nilsl : Rep g (.slice none 0 0) .nilsl
  | zsl (a : Option Addr) : Rep g (.slice a 0 0) .zsl
  | fn (f : FuncId) (vs ws : List Value) (first caps : List PV) : vs.length = first.length → (∀ (i : Nat) v c, vs[i]? = some v → first[i]? = some c → Rep g v c) →
      ws.length = caps.length → (∀ (i : Nat) v c, ws[i]? = some v → caps[i]? = some c → Rep g v c) → Rep g (.func (.func f) vs.toArray ws.toArray) (.fn f first caps)
  | map (o b : Nat) : g.at_ o = some b → Rep g (.map (some b)) (.map o)
  | tup (vs : List Value) (cs : List PV) : vs.length = cs.length → (∀ (i : Nat) v c, vs[i]? = some v → cs[i]? = some c → Rep g v c) → Rep g (.tuple vs.toArray) (.tup cs)
  | und : Rep g undef .und
  | dead (v : Value) : Rep g v .dead

/-- More stays, and objects have the blocks that they had. -/
def Gle (g g' : Gh) : Prop := (∀ b i v, g.fr b i = some v → g'.fr b i = some v) ∧ ∀ o b, g.at_ o = some b → g'.at_ o = some b ∧ g'.sz o = g.sz o

theorem Gle.refl (g : Gh) : Gle g g := ⟨fun _ _ _ h => h, fun _ _ h => ⟨h, rfl⟩⟩
theorem Gle.trans {g g' g'' : Gh} (h : Gle g g') (h' : Gle g' g'') : Gle g g'' := ⟨fun b i v x => h'.1 _ _ _ (h.1 _ _ _ x), fun o b x => let ⟨p, q⟩ := h.2 _ _ x; let ⟨p', q'⟩ := h'.2 _ _ p; ⟨p', q'.trans q⟩⟩

theorem Rep.mono {g g' : Gh} (h : Gle g g') {v : Value} {x : PV} (r : Rep g v x) : Rep g' v x := by
  induction r with
  | d r => exact .d (r.mono h.1)
  | agg vs cs h1 h2 h3 ih => exact .agg vs cs h1 h2 ih
  | ptr o off b h1 => exact .ptr o off b (h.2 _ _ h1).1
  | fptr e off b base h1 => exact .fptr e off b base (h1.mono h.1)
  | osl o off len z cap b t h1 h2 h3 h4 => exact .osl o off len z cap b t (h.2 _ _ h1).1 h2 (by rw [(h.2 _ _ h1).2]; exact h3) h4
  | osl0 o off z a t => exact .osl0 o off z a t
  | fsl es a n cap t h1 h2 => exact .fsl es a n cap t (h1.mono h.1) h2
  | nilsl => exact .nilsl
  | zsl a => exact .zsl a
  | fn f vs ws first caps h1 h2 h3 h4 ih1 ih2 => exact .fn f vs ws first caps h1 ih1 h3 ih2
  | map o b h1 => exact .map o b (h.2 _ _ h1).1
  | tup vs cs h1 h2 ih => exact .tup vs cs h1 ih
  | und => exact .und
  | dead v => exact .dead v

/-- The objects that are known, by their names. -/
abbrev Objs := Nat → PObj

def Live : PObj → Bool
  | .arr _ | .mp _ => true
  | _ => false

/-- An object's block holds it. -/
def RelObj (g : Gh) (w : World) (o : Nat) : PObj → Prop
  | .arr cs => (cs = [] ∧ g.at_ o = none) ∨ ∃ b c e, g.at_ o = some b ∧ w.heap[b]? = some (.cells c e (0, 0)) ∧ cs.length ≤ c.size ∧ c.size = g.sz o ∧
      (∀ (i : Nat) v, i < cs.length → c[i]? = some v → one v = true) ∧ (∀ (i : Nat) v p, c[i]? = some v → cs[i]? = some p → Rep g v p) ∧ ∀ i, g.fr b i = none
  | .froz cs => ∃ b, g.at_ o = some b ∧ FrozenAt g.fr b 0 cs
  | .mp _ => False
  | .dead => True

structure RelH (g : Gh) (L : Objs) (w : World) : Prop where
  fr : ∀ b i v, g.fr b i = some v → w.cell? ⟨b, i, none⟩ = some v
  obj : ∀ o, RelObj g w o (L o)
  inj : ∀ o o' b, g.at_ o = some b → g.at_ o' = some b → Live (L o) = true → Live (L o') = true → o = o'

/-- The objects that a list tells. -/
def Lf (L : List PObj) : Objs := fun o => (L[o]?).getD .dead

structure RelA (g : Gh) (env : List PV) (a : Act) : Prop where
  size : a.tmps.size = env.length
  rep : ∀ t p, env[t]? = some p → Rep g (a.tmps.getD t undef) p
  defers : a.defers = []

end Go.Fw
