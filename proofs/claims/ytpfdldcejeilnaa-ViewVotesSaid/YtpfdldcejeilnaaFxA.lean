import Derived.Test.YtpfdldcejeilnaaFwT
set_option linter.unusedVariables false
set_option linter.unusedSimpArgs false
namespace Go.Fw
open Go

/-! ### What an operation does, typed -/

structure TOut where
  pv : TV
  upd : List (Nat × TO) := []
  rd : List Nat := []
  deriving Inhabited
def TOut.pure (v : TV) : TOut := { pv := v }
def TOut.er (o : TOut) : Out := { pv := Fw.er o.pv, upd := o.upd.map fun p => (p.1, erO p.2), rd := o.rd }

def obl : Option Prop → Prop
  | none => True
  | some p => p
def oand : Option Prop → Option Prop → Option Prop
  | none, b => b
  | some p, none => some p
  | some p, some q => some (p ∧ q)
theorem obl_oand {a b : Option Prop} : obl (oand a b) ↔ obl a ∧ obl b := by
  cases a <;> cases b <;> simp [oand, obl]

def tOfCell : Value → TV
  | .int k n => .int k n
  | .bool b => .bool b
  | .string s => .str s
  | .pointer none => .nilp
  | .slice none 0 0 => .nilsl
  | .nilFunc => .nilf
  | _ => .dead
def tOfConst : Value → TV
  | .agg cs => .agg (cs.toList.map tOfCell)
  | v => tOfCell v
def tOpd (v : Value) : TV := bif plainConst v then tOfConst v else .dead
def tev (env : List TV) : Operand → TV
  | .tmp t => (env[t]?).getD .dead
  | .const v => tOpd v
  | .global _ => .dead
  | .func f => .fn f [] []

theorem er_ofCell (v : Value) : er (tOfCell v) = ofCell v := by
  unfold tOfCell ofCell
  split <;> simp_all [er]
theorem er_opd (v : Value) : er (tOpd v) = ofOpd v := by
  unfold tOpd ofOpd
  cases plainConst v
  · rfl
  · simp only [cond_true]
    cases v with
    | agg cs =>
      simp only [tOfConst, ofConst, er, erL_map, List.map_map]
      congr 1
      apply List.map_congr_left
      intro x _
      exact er_ofCell x
    | _ => simp only [tOfConst, ofConst, er_ofCell]
theorem er_tev (env : List TV) (x : Operand) : ev (erL env) x = er (tev env x) := by
  cases x with
  | tmp t => simp only [ev, tev, erL_get]; cases env[t]? <;> rfl
  | const v => exact (er_opd v).symm
  | global _ => rfl
  | func f => rfl

def tval : TV → Bool
  | .tup _ | .und | .dead => false
  | _ => true
def tspread : TV → List TV
  | .agg cs => cs
  | v => [v]
theorem tval_er (v : TV) : isVal (er v) = tval v := by cases v <;> rfl
theorem spread_er (v : TV) : spread (er v) = erL (tspread v) := by cases v <;> rfl

def tz : PV → Option TV
  | .d (.int k n) => some (.int k n)
  | .d (.bool b) => some (.bool b)
  | .d (.str s) => some (.str s)
  | .d .nilp => some .nilp
  | .d .nilf => some .nilf
  | .nilsl => some .nilsl
  | _ => none
def tzs : List PV → Option (List TV)
  | [] => some []
  | p :: r =>
    match tz p, tzs r with
    | some v, some vs => some (v :: vs)
    | _, _ => none
theorem tz_er {p : PV} {v : TV} (h : tz p = some v) : er v = p := by
  unfold tz at h
  split at h <;> first | (cases h; rfl) | (cases h; done)
theorem tzs_er : ∀ {ps : List PV} {vs : List TV}, tzs ps = some vs → erL vs = ps
  | [], vs, h => by simp only [tzs] at h; cases h; rfl
  | p :: r, vs, h => by
    simp only [tzs] at h
    split at h
    · rename_i v ws h1 h2
      cases h
      simp only [erL, tz_er h1, tzs_er h2]
    · cases h

def tfill (zs : List TV) : List (Nat × Nat × TV) → Option (List TV)
  | [] => some zs
  | (off, n, p) :: rest =>
    if tval p = true ∧ (tspread p).length = n ∧ off + n ≤ zs.length then tfill (zs.take off ++ tspread p ++ zs.drop (off + n)) rest else none
theorem tfill_er : ∀ {ps : List (Nat × Nat × TV)} {zs cs : List TV}, tfill zs ps = some cs → fillP (erL zs) (ps.map fun (o, n, x) => (o, n, er x)) = some (erL cs)
  | [], zs, cs, h => by simp only [tfill] at h; cases h; rfl
  | (off, n, p) :: rest, zs, cs, h => by
    simp only [tfill] at h
    split at h
    · rename_i hc
      obtain ⟨h1, h2, h3⟩ := hc
      have := tfill_er h
      simp only [List.map_cons, fillP]
      rw [if_pos ⟨by rw [tval_er]; exact h1, by rw [spread_er, erL_len]; exact h2, by rw [erL_len]; exact h3⟩]
      rw [erL_append, erL_append, erL_take, erL_drop] at this
      rw [spread_er]
      exact this
    · cases h

/-! Numbers, by their kinds. -/
def addK (k : IntKind) (x y : Int) : Int := k.wrap (x + y)
def subK (k : IntKind) (x y : Int) : Int := k.wrap (x - y)
def mulK (k : IntKind) (x y : Int) : Int := k.wrap (x * y)
def quoK (k : IntKind) (x y : Int) : Int := k.wrap (x.tdiv y)
def remK (x y : Int) : Int := x.tmod y
def andK (k : IntKind) (x y : Int) : Int := k.wrap (BitVec.ofInt k.bits x &&& BitVec.ofInt k.bits y).toNat
def orK (k : IntKind) (x y : Int) : Int := k.wrap (BitVec.ofInt k.bits x ||| BitVec.ofInt k.bits y).toNat
def xorK (k : IntKind) (x y : Int) : Int := k.wrap (BitVec.ofInt k.bits x ^^^ BitVec.ofInt k.bits y).toNat
def shlK (k : IntKind) (x y : Int) : Int := k.wrap (x * 2 ^ (min y.toNat k.bits))
def shrK (k : IntKind) (x y : Int) : Int := x.fdiv (2 ^ (min y.toNat k.bits))
def convK (k : IntKind) (x : Int) : Int := k.wrap x
def negK (k : IntKind) (x : Int) : Int := k.wrap (0 - x)
def maxI (x y : Int) : Int := if y > x then y else x
def minI (x y : Int) : Int := if y < x then y else x
def streq (x y : ByteArray) : Bool := x.toList == y.toList

def binI (op : BinOp) (k : IntKind) (x : Int) (k' : IntKind) (y : Int) : Option (Option Prop × TV) :=
  match op with
  | .add => if k = k' then some (none, .int k (addK k x y)) else none
  | .sub => if k = k' then some (none, .int k (subK k x y)) else none
  | .mul => if k = k' then some (none, .int k (mulK k x y)) else none
  | .quo => if k = k' then some (some (y ≠ 0), .int k (quoK k x y)) else none
  | .rem => if k = k' then some (some (y ≠ 0), .int k (remK x y)) else none
  | .and => if k = k' then some (none, .int k (andK k x y)) else none
  | .or => if k = k' then some (none, .int k (orK k x y)) else none
  | .xor => if k = k' then some (none, .int k (xorK k x y)) else none
  | .shl => some (some (0 ≤ y), .int k (shlK k x y))
  | .shr => some (some (0 ≤ y), .int k (shrK k x y))
  | .eql => if k = k' then some (none, .bool (x == y)) else none
  | .neq => if k = k' then some (none, .bool (x != y)) else none
  | .lss => if k = k' then some (none, .bool (decide (x < y))) else none
  | .leq => if k = k' then some (none, .bool (decide (x ≤ y))) else none
  | .gtr => if k = k' then some (none, .bool (decide (x > y))) else none
  | .geq => if k = k' then some (none, .bool (decide (x ≥ y))) else none
  | _ => none
def binS (op : BinOp) (x y : ByteArray) : Option (Option Prop × TV) :=
  match op with
  | .eql => some (none, .bool (streq x y))
  | .neq => some (none, .bool (!(streq x y)))
  | .add => some (some (x.size + y.size ≤ 9223372036854775807), .str (x ++ y))
  | .lss => some (none, .bool (Op.bytesLess x.toList y.toList))
  | _ => none
def binT (op : BinOp) (a b : TV) : Option (Option Prop × TV) :=
  match a, b with
  | .int k x, .int k' y => binI op k x k' y
  | .str x, .str y => binS op x y
  | _, _ => none

def bytesT (xs : List Int) : ByteArray := ⟨(xs.map fun n => UInt8.ofNat n.toNat).toArray⟩
def tidx (v : TV) : Option Int :=
  match v with
  | .int _ n => some n
  | _ => none
theorem tidx_er (v : TV) : idx? (er v) = tidx v := by cases v <;> rfl

def tLoad1 (L : List TO) : TV → Option (Option Prop × TOut)
  | .ptr o off =>
    match L[o]? with
    | some (.arr cs) => (cs[off]?).map fun p => (none, { pv := p, rd := [o] })
    | _ => none
  | .ep o z i off =>
    match L[o]? with
    | some (.vec e xs) => if z = e.len then ((EL.tv e (rd e xs i))[off]?).map fun p => (some (i < xs.length), { pv := p, rd := [o] }) else none
    | _ => none
  | .fp e x off => ((EL.tv e x)[off]?).map fun p => (none, .pure p)
  | _ => none
def tLoadN (L : List TO) (n : Nat) : TV → Option (Option Prop × TOut)
  | .ptr o off =>
    match L[o]? with
    | some (.arr cs) => if off + n ≤ cs.length then some (none, { pv := .agg ((cs.drop off).take n), rd := [o] }) else none
    | _ => none
  | .ep o z i off =>
    match L[o]? with
    | some (.vec e xs) => if z = e.len ∧ off + n ≤ e.len then some (some (i < xs.length), { pv := .agg (((EL.tv e (rd e xs i)).drop off).take n), rd := [o] }) else none
    | _ => none
  | .fp e x off => if off + n ≤ e.len then some (none, .pure (.agg (((EL.tv e x).drop off).take n))) else none
  | _ => none
def tStore (L : List TO) (n : Nat) (v : TV) : TV → Option (Option Prop × TOut)
  | .ptr o off =>
    match L[o]? with
    | some (.arr cs) => if tval v = true ∧ (tspread v).length = n ∧ off + n ≤ cs.length then some (none, { pv := .und, upd := [(o, .arr (cs.take off ++ tspread v ++ cs.drop (off + n)))] }) else none
    | _ => none
  | .ep o z i off =>
    match L[o]? with
    | some (.vec e xs) =>
      if z = e.len ∧ tval v = true ∧ (tspread v).length = n ∧ off + n ≤ e.len then
        (EL.dec e ((EL.tv e (rd e xs i)).take off ++ tspread v ++ (EL.tv e (rd e xs i)).drop (off + n))).map fun y => (some (i < xs.length), { pv := .und, upd := [(o, .vec e (xs.set i y))] })
      else none
    | _ => none
  | _ => none
def tNilc : TV → Option (Option Prop × TOut)
  | .ptr o off => some (none, .pure (.ptr o off))
  | .fp e x off => some (none, .pure (.fp e x off))
  | .ep o z i off => some (none, .pure (.ep o z i off))
  | .fn f a b => some (none, .pure (.fn f a b))
  | _ => none
def tIsnil (kd : Nat) (neq : Bool) (v : TV) : Option (Option Prop × TOut) :=
  match kd, v with
  | 0, .ptr _ _ | 0, .fp _ _ _ | 0, .ep _ _ _ _ | 2, .fn _ _ _ | 3, .map _ => some (none, .pure (.bool neq))
  | 0, .nilp | 2, .nilf | 1, .nilsl => some (none, .pure (.bool (!neq)))
  | _, _ => none
def ints (k : IntKind) : List TV → Option (List Int)
  | [] => some []
  | v :: r =>
    match decI k v, ints k r with
    | some x, some xs => some (x :: xs)
    | _, _ => none
def tB2s (L : List TO) : TV → Option (Option Prop × TOut)
  | .sl (.one (.int .u8)) xs => some (none, .pure (.str (bytesT xs)))
  | .nilsl | .zsl => some (none, .pure (.str ByteArray.empty))
  | .vf o e n _ =>
    match L[o]? with
    | some (.vec (.one (.int .u8)) xs) => some (some (n = xs.length), { pv := .str (bytesT xs), rd := [o] })
    | _ => none
  | .vs o e s n _ =>
    match L[o]? with
    | some (.vec (.one (.int .u8)) xs) => if e.len = 1 then some (some (s + n ≤ xs.length), { pv := .str (bytesT (sub xs s n)), rd := [o] }) else none
    | _ => none
  | .ls o off n z _ =>
    match L[o]? with
    | some (.arr cs) => if off + n ≤ cs.length then (ints .u8 ((cs.drop off).take n)).map fun xs => (none, { pv := .str (bytesT xs), rd := [o] }) else none
    | _ => none
  | _ => none
def tMark (L : List TO) : TV → Option (Option Prop × TOut)
  | .ls q off n z _ =>
    match L[q]? with
    | some (.arr cs) => if off = 0 ∧ z = 1 ∧ 1 ≤ n ∧ n = cs.length then (ints .u8 cs).map fun xs => (none, { pv := .sl (.one (.int .u8)) xs, upd := [(q, .dead)] }) else none
    | _ => none
  | _ => none
def tFaddr (off : Nat) : TV → Option (Option Prop × TOut)
  | .ptr o k => some (none, .pure (.ptr o (k + off)))
  | .fp e x k => some (none, .pure (.fp e x (k + off)))
  | .ep o z i k => some (none, .pure (.ep o z i (k + off)))
  | _ => none
def plusN : Nat → Nat → Nat
  | 0, n => n
  | s, n => s + n
theorem plusN_eq (s n : Nat) : plusN s n = s + n := by unfold plusN; split <;> simp
def tIaddr (z : Nat) (n : Int) : TV → Option (Option Prop × TOut)
  | .sl e xs => if z = e.len then some (some (0 ≤ n ∧ n.toNat < xs.length), .pure (.fp e (rd e xs n.toNat) 0)) else none
  | .vf o e m _ => if z = e.len then some (some (0 ≤ n ∧ n.toNat < m), .pure (.ep o z n.toNat 0)) else none
  | .vs o e s m _ => if z = e.len then some (some (0 ≤ n ∧ n.toNat < m), .pure (.ep o z (plusN s n.toNat) 0)) else none
  | .ls o off m z' _ => if z' = z then some (some (0 ≤ n ∧ n.toNat < m), .pure (.ptr o (off + n.toNat * z))) else none
  | _ => none
def tLen : TV → Option (Option Prop × TOut)
  | .sl e xs => some (none, .pure (.int .i64 xs.length))
  | .nilsl | .zsl => some (none, .pure (.int .i64 0))
  | .ls _ _ n _ _ => some (none, .pure (.int .i64 n))
  | .vf _ _ n _ => some (none, .pure (.int .i64 n))
  | .vs _ _ _ n _ => some (none, .pure (.int .i64 n))
  | _ => none

/-- What is appended: elements, objects that are read. -/
def tIn (L : List TO) (e : EL) : TV → Option (Option Prop × List e.T × List Nat)
  | .sl e' ys => (castL? e' e ys).map fun xs => (none, xs, [])
  | .nilsl | .zsl => some (none, [], [])
  | .vf o e1 n _ =>
    match L[o]? with
    | some (.vec e' ys) => if EL.beq e1 e' = true then (castL? e' e ys).map fun xs => (some (n = ys.length), xs, [o]) else none
    | _ => none
  | .vs o e1 s n _ =>
    match L[o]? with
    | some (.vec e' ys) => if EL.beq e1 e' = true then (castL? e' e ys).map fun xs => (some (s + n ≤ ys.length), sub xs s n, [o]) else none
    | _ => none
  | .ls o off n z _ =>
    match L[o]? with
    | some (.arr cs) => if z = e.len ∧ off + n * z ≤ cs.length then (decs e n ((cs.drop off).take (n * z))).map fun xs => (none, xs, [o]) else none
    | _ => none
  | _ => none
def tBase (L : List TO) (e : EL) : TV → Option (Option Prop × List e.T × List (Nat × TO))
  | .nilsl | .zsl => some (none, [], [])
  | .vf o e1 n _ =>
    match L[o]? with
    | some (.vec e' ys) => if EL.beq e1 e' = true then (castL? e' e ys).map fun xs => (some (n = ys.length), xs, [(o, .dead)]) else none
    | _ => none
  | .vs o e1 s n t =>
    match L[o]? with
    | some (.vec e' ys) => if EL.beq e1 e' = true ∧ s = 0 ∧ t = true then (castL? e' e ys).map fun xs => (some (n ≤ ys.length), xs.take n, [(o, .dead)]) else none
    | _ => none
  | .ls o off n z t =>
    match L[o]? with
    | some (.arr cs) => if z = e.len ∧ off = 0 ∧ n * z ≤ cs.length ∧ (t = true ∨ cs.length = n * z) then (decs e n (cs.take (n * z))).map fun xs => (none, xs, [(o, .dead)]) else none
    | _ => none
  | _ => none
def szOb (bytes n : Nat) : Option Prop := if bytes ≤ 128 then some (n ≤ 1099511627776) else some (n * bytes ≤ 140737488355328)
def tAppend (L : List TO) (z bytes : Nat) (e : EL) (x y : TV) : Option (Option Prop × TOut) :=
  if z = e.len then
    match tBase L e x, tIn L e y with
    | some (ob, xs, kill), some (ob', ys, rds) =>
      some (oand ob (oand ob' (szOb bytes (xs.length + ys.length))), { pv := .vf L.length e (xs ++ ys).length false, upd := kill ++ [(L.length, .vec e (xs ++ ys))], rd := rds })
    | _, _ => none
  else none
/-- What is appended, cell by cell. -/
def tInL (L : List TO) (z : Nat) : TV → Option (Nat × List TV × List Nat)
  | .nilsl | .zsl => some (0, [], [])
  | .ls o off n z' _ =>
    match L[o]? with
    | some (.arr cs) => if z' = z ∧ off + n * z ≤ cs.length then some (n, (cs.drop off).take (n * z), [o]) else none
    | _ => none
  | _ => none
def tBaseL (L : List TO) (z : Nat) : TV → Option (Nat × List TV × List (Nat × TO))
  | .nilsl | .zsl => some (0, [], [])
  | .ls o off n z' t =>
    match L[o]? with
    | some (.arr cs) => if z' = z ∧ off = 0 ∧ n * z ≤ cs.length ∧ (t = true ∨ cs.length = n * z) then some (n, cs.take (n * z), [(o, .dead)]) else none
    | _ => none
  | _ => none
def tAppendL (L : List TO) (z bytes : Nat) (x y : TV) : Option (Option Prop × TOut) :=
  match tBaseL L z x, tInL L z y with
  | some (n, cs, kill), some (m, ys, rds) =>
    if n + m ≤ 1099511627776 ∧ (n + m) * bytes ≤ 140737488355328 then some (none, { pv := .ls L.length 0 (n + m) z false, upd := kill ++ [(L.length, .arr (cs ++ ys))], rd := rds }) else none
  | _, _ => none

/-- Bounds of a slice: they must be in order; from where; how many. -/
def tbnd (len : Nat) (lo hi : Option Int) : Option Prop :=
  match lo, hi with
  | none, none => none
  | none, some h => some (0 ≤ h ∧ h ≤ len)
  | some l, none => some (0 ≤ l ∧ l ≤ len)
  | some l, some h => some (0 ≤ l ∧ l ≤ h ∧ h ≤ len)
def loN : Option Int → Nat
  | none => 0
  | some l => l.toNat
def cntN (len : Nat) : Option Int → Option Int → Nat
  | none, none => len
  | none, some h => h.toNat
  | some l, none => len - l.toNat
  | some l, some h => h.toNat - l.toNat
def cutL {α : Type} (xs : List α) : Option Int → Option Int → List α
  | none, none => xs
  | none, some h => xs.take h.toNat
  | some l, none => xs.drop l.toNat
  | some l, some h => (xs.drop l.toNat).take (h.toNat - l.toNat)
/-- A bound: none; or a number. -/
def tbd (env : List TV) : Option Operand → Option (Option Int)
  | none => some none
  | some x => (tidx (tev env x)).map some
def tSlice (z : Nat) (v : TV) (lo hi mx : Option Int) : Option (Option Prop × TOut) :=
  match v with
  | .sl e xs =>
    if z = e.len then
      match mx with
      | none => some (tbnd xs.length lo hi, .pure (.sl e (cutL xs lo hi)))
      | some m =>
        match m, hi, lo with
        | .ofNat 0, some (.ofNat 0), none => some (none, .pure .zsl)
        | .ofNat 0, some (.ofNat 0), some (.ofNat 0) => some (none, .pure .zsl)
        | _, _, _ => none
    else none
  | .nilsl => if lo.getD 0 = 0 ∧ hi.getD 0 = 0 ∧ mx.getD 0 = 0 then some (none, .pure .nilsl) else none
  | .zsl => if lo.getD 0 = 0 ∧ hi.getD 0 = 0 ∧ mx.getD 0 = 0 then some (none, .pure .zsl) else none
  | .vf o e n t =>
    if z = e.len then
      match mx, lo, hi with
      | none, none, none => some (none, .pure (.vf o e n false))
      | none, _, _ => some (tbnd n lo hi, .pure (.vs o e (loN lo) (cntN n lo hi) false))
      | some m, _, some h => some (oand (tbnd n lo hi) (some (m = h)), .pure (.vs o e (loN lo) (cntN n lo hi) true))
      | _, _, _ => none
    else none
  | .vs o e s n t =>
    if z = e.len then
      match mx, hi with
      | none, _ => some (tbnd n lo hi, .pure (.vs o e (plusN s (loN lo)) (cntN n lo hi) false))
      | some m, some h => some (oand (tbnd n lo hi) (some (m = h)), .pure (.vs o e (plusN s (loN lo)) (cntN n lo hi) true))
      | _, _ => none
    else none
  | .ls o off n z' t =>
    if z' = z then
      match mx with
      | none => some (tbnd n lo hi, .pure (.ls o (off + loN lo * z) (cntN n lo hi) z false))
      | _ => none
    else none
  | _ => none
def tSliceA (L : List TO) (n z : Nat) (v : TV) (lo hi mx : Option Int) : Option (Option Prop × TOut) :=
  match v, lo, hi, mx with
  | .ptr q off, none, none, none =>
    match L[q]? with
    | some (.arr cs) => if off + n * z ≤ cs.length then some (none, { pv := .ls q off n z true, rd := [q] }) else none
    | _ => none
  | _, _, _, _ => none
def tSliceS (v : TV) (lo hi : Option Int) : Option (Option Prop × TOut) :=
  match v with
  | .str s =>
    match lo, hi with
    | none, none => some (none, .pure (.str s))
    | none, some h => some (some (0 ≤ h ∧ h ≤ s.size), .pure (.str (s.extract 0 h.toNat)))
    | some l, none => some (some (0 ≤ l ∧ l ≤ s.size), .pure (.str (s.extract l.toNat s.size)))
    | some l, some h => some (some (0 ≤ l ∧ l ≤ h ∧ h ≤ s.size), .pure (.str (s.extract l.toNat h.toNat)))
  | _ => none
def tMkslice (L : List TO) (z bytes : Nat) (zs : List PV) (e : EL) (n k : Int) : Option (Option Prop × TOut) :=
  if z = e.len then
    (tzs zs).bind fun vs => (EL.dec e vs).map fun x =>
      (some (0 ≤ n ∧ n = k ∧ n ≤ 1099511627776 ∧ n * bytes ≤ 140737488355328), { pv := .vf L.length e (List.replicate n.toNat x).length true, upd := [(L.length, .vec e (List.replicate n.toNat x))] })
  else none

/-- An operation; e: the type of the elements of what it makes. -/
def tp (env : List TV) (L : List TO) (e : Option EL) : POp → Option (Option Prop × TOut)
  | .move x => some (none, .pure (tev env x))
  | .pick c a b =>
    match tev env c with
    | .bool t =>
      match tev env a, tev env b with
      | .bool x, .bool y => some (none, .pure (.bool (bif t then x else y)))
      | p, q => some (none, .pure (bif t then p else q))
    | _ => none
  | .alloc zs => (tzs zs).map fun cs => (none, { pv := .ptr L.length 0, upd := [(L.length, .arr cs)] })
  | .box n x => if tval (tev env x) = true ∧ (tspread (tev env x)).length = n then some (none, { pv := .ptr L.length 0, upd := [(L.length, .arr (tspread (tev env x)))] }) else none
  | .build zs parts => (tzs zs).bind fun zs => (tfill zs (parts.map fun (o, n, x) => (o, n, tev env x))).map fun cs => (none, .pure (.agg cs))
  | .bslice z len zs parts =>
    match e with
    | none => (tzs zs).bind fun zs => (tfill zs (parts.map fun (o, n, x) => (o, n, tev env x))).map fun cs => (none, { pv := .ls L.length 0 len z true, upd := [(L.length, .arr cs)] })
    | some e =>
      if z = e.len then
        (tzs zs).bind fun zs => (tfill zs (parts.map fun (o, n, x) => (o, n, tev env x))).bind fun cs => (decs e len cs).map fun xs =>
          (none, { pv := .vf L.length e xs.length true, upd := [(L.length, .vec e xs)] })
      else none
  | .load1 a => tLoad1 L (tev env a)
  | .loadN n a => tLoadN L n (tev env a)
  | .store n a v => tStore L n (tev env v) (tev env a)
  | .nilc x => tNilc (tev env x)
  | .bin op x y => (binT op (tev env x) (tev env y)).map fun (ob, r) => (ob, .pure r)
  | .binB neq x y =>
    match tev env x, tev env y with
    | .bool a, .bool b => some (none, .pure (.bool (bif neq then !(a == b) else a == b)))
    | _, _ => none
  | .isnil kd neq x => tIsnil kd neq (tev env x)
  | .un op x =>
    match op, tev env x with
    | .not, .bool b => some (none, .pure (.bool (!b)))
    | .neg, .int k n => some (none, .pure (.int k (negK k n)))
    | _, _ => none
  | .conv k x =>
    match tev env x with
    | .int _ n => some (none, .pure (.int k (convK k n)))
    | _ => none
  | .b2s x => tB2s L (tev env x)
  | .mark x => tMark L (tev env x)
  | .extract x i =>
    match tev env x with
    | .tup vs => (vs[i]?).map fun p => (none, .pure p)
    | _ => none
  | .faddr off x => tFaddr off (tev env x)
  | .field1 off x =>
    match tev env x with
    | .agg cs => (cs[off]?).map fun p => (none, .pure p)
    | _ => none
  | .fieldN off n x =>
    match tev env x with
    | .agg cs => if off + n ≤ cs.length then some (none, .pure (.agg ((cs.drop off).take n))) else none
    | _ => none
  | .iaddr z x i => (tidx (tev env i)).bind fun n => tIaddr z n (tev env x)
  | .idxS x i =>
    match tev env x, tidx (tev env i) with
    | .str s, some n => some (some (0 ≤ n ∧ n.toNat < s.size), .pure (.int .u8 ((s.data[n.toNat]?).getD 0).toNat))
    | _, _ => none
  | .len x => tLen (tev env x)
  | .lenS x =>
    match tev env x with
    | .str s => some (none, .pure (.int .i64 s.size))
    | _ => none
  | .append z bytes x y =>
    match e with
    | some e => tAppend L z bytes e (tev env x) (tev env y)
    | none => tAppendL L z bytes (tev env x) (tev env y)
  | .slice z x lo hi mx =>
    match tbd env lo, tbd env hi, tbd env mx with
    | some l, some h, some m => tSlice z (tev env x) l h m
    | _, _, _ => none
  | .sliceA n z x lo hi mx =>
    match tbd env lo, tbd env hi, tbd env mx with
    | some l, some h, some m => tSliceA L n z (tev env x) l h m
    | _, _, _ => none
  | .sliceS x lo hi =>
    match tbd env lo, tbd env hi with
    | some l, some h => tSliceS (tev env x) l h
    | _, _ => none
  | .mkslice z bytes zs l c =>
    match e, tidx (tev env l), tidx (tev env c) with
    | some e, some n, some k => tMkslice L z bytes zs e n k
    | _, _, _ => none
  | .mkfn f caps => some (none, .pure (.fn f [] (caps.map (tev env))))
  | .minmax mx x y =>
    match tev env x, tev env y with
    | .int k a, .int k' b => if k = k' then some (none, .pure (.int k (bif mx then maxI a b else minI a b))) else none
    | _, _ => none
  | _ => none

end Go.Fw
