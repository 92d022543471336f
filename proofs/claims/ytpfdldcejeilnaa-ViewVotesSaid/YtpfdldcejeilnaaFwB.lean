import Derived.Test.YtpfdldcejeilnaaFwA
import Derived.WalkKit
import Derived.Laws.CopyRow
import Derived.Laws.AppendOwn
import Derived.ArgAppend
set_option linter.unusedVariables false
set_option linter.unusedSimpArgs false
namespace Go.Fw
open Go

/-! ### Operations, with their types' numbers looked up -/

inductive POp where
  | move (x : Operand)
  | pick (c a b : Operand)
  | alloc (zs : List PV)
  | box (n : Nat) (x : Operand)
  | build (zs : List PV) (parts : List (Nat × Nat × Operand))
  | bslice (z len : Nat) (zs : List PV) (parts : List (Nat × Nat × Operand))
  | load1 (a : Operand)
  | loadN (n : Nat) (a : Operand)
  | store (n : Nat) (a v : Operand)
  | nilc (x : Operand)
  | bin (op : BinOp) (x y : Operand)
  | binB (neq : Bool) (x y : Operand)
  | isnil (kd : Nat) (neq : Bool) (x : Operand)
  | un (op : UnOp) (x : Operand)
  | conv (k : IntKind) (x : Operand)
  | b2s (x : Operand)
  | mark (x : Operand)
  | extract (x : Operand) (i : Nat)
  | faddr (off : Nat) (x : Operand)
  | field1 (off : Nat) (x : Operand)
  | fieldN (off n : Nat) (x : Operand)
  | iaddr (z : Nat) (x i : Operand)
  | iaddrA (n z : Nat) (x i : Operand)
  | idxS (x i : Operand)
  | len (x : Operand)
  | lenS (x : Operand)
  | append (z bytes : Nat) (x y : Operand)
  | slice (z : Nat) (x : Operand) (lo hi mx : Option Operand)
  | sliceA (n z : Nat) (x : Operand) (lo hi mx : Option Operand)
  | sliceS (x : Operand) (lo hi : Option Operand)
  | mkslice (z bytes : Nat) (zs : List PV) (l c : Operand)
  | mkfn (f : FuncId) (caps : List Operand)
  | minmax (mx : Bool) (x y : Operand)
  | callf (f : FuncId) (args : List Operand)
  | callv (x : Operand) (args : List Operand)
  deriving Inhabited

def ofCell : Value → PV
  | .int k n => .d (.int k n)
  | .bool b => .d (.bool b)
  | .string s => .d (.str s)
  | .pointer none => .d .nilp
  | .slice none 0 0 => .nilsl
  | .nilFunc => .d .nilf
  | _ => .dead

def ofConst : Value → PV
  | .agg cs => .agg (cs.toList.map ofCell)
  | v => ofCell v

/-- A constant's cells are no structs. -/
def plainConst : Value → Bool
  | .agg cs => cs.toList.all one
  | v => one v

def ofOpd (v : Value) : PV := bif plainConst v then ofConst v else .dead

def ev (env : List PV) : Operand → PV
  | .tmp t => (env[t]?).getD .dead
  | .const v => ofOpd v
  | .global _ => .dead
  | .func f => .fn f [] []

theorem rep_ofCell (g : Gh) (v : Value) : Rep g v (ofCell v) := by
  unfold ofCell
  split
  · exact .d (.int _ _)
  · exact .d (.bool _)
  · exact .d (.str _)
  · exact .d .nilp
  · exact .nilsl
  · exact .d .nilf
  · exact .dead _

theorem rep_ofConst (g : Gh) (v : Value) (h : plainConst v = true) : Rep g v (ofConst v) := by
  unfold ofConst
  split
  · rename_i cs
    obtain ⟨l⟩ := cs
    simp only [plainConst, List.all_eq_true] at h
    refine .agg l _ (by simp) (fun i v hv => h v (List.mem_of_getElem? hv)) (fun i v c h1 h2 => ?_)
    simp only [List.getElem?_map, h1, Option.map_some, Option.some.injEq] at h2
    rw [← h2]
    exact rep_ofCell g v
  · exact rep_ofCell g v

/-- What an operation leaves: its value, the objects that are new or changed, the objects that are read. -/
structure Out where
  pv : PV
  upd : List (Nat × PObj) := []
  rd : List Nat := []
  deriving Inhabited

def Out.pure (x : PV) : Out := { pv := x }


/-! ### What an operation does, told of what is known -/

def isVal : PV → Bool
  | .agg _ | .d _ | .ptr .. | .fptr .. | .osl .. | .fsl .. | .nilsl | .zsl | .fn .. | .map .. => true
  | _ => false

def spread : PV → List PV
  | .agg cs => cs
  | p => [p]

def fillP (zs : List PV) : List (Nat × Nat × PV) → Option (List PV)
  | [] => some zs
  | (off, n, p) :: rest =>
    if isVal p = true ∧ (spread p).length = n ∧ off + n ≤ zs.length then fillP (zs.take off ++ spread p ++ zs.drop (off + n)) rest else none

def binD (op : BinOp) : DV → DV → Option (Prop × DV)
  | .int k x, .int k' y =>
    match op with
    | .add => if k = k' then some (True, .int k (k.wrap (x + y))) else none
    | .sub => if k = k' then some (True, .int k (k.wrap (x - y))) else none
    | .mul => if k = k' then some (True, .int k (k.wrap (x * y))) else none
    | .quo => if k = k' then some (y ≠ 0, .int k (k.wrap (x.tdiv y))) else none
    | .rem => if k = k' then some (y ≠ 0, .int k (x.tmod y)) else none
    | .and => if k = k' then some (True, .int k (k.wrap (BitVec.ofInt k.bits x &&& BitVec.ofInt k.bits y).toNat)) else none
    | .or => if k = k' then some (True, .int k (k.wrap (BitVec.ofInt k.bits x ||| BitVec.ofInt k.bits y).toNat)) else none
    | .xor => if k = k' then some (True, .int k (k.wrap (BitVec.ofInt k.bits x ^^^ BitVec.ofInt k.bits y).toNat)) else none
    | .shl => some (0 ≤ y, .int k (k.wrap (x * 2 ^ (min y.toNat k.bits))))
    | .shr => some (0 ≤ y, .int k (x.fdiv (2 ^ (min y.toNat k.bits))))
    | .eql => if k = k' then some (True, .bool (x == y)) else none
    | .neq => if k = k' then some (True, .bool (x != y)) else none
    | .lss => if k = k' then some (True, .bool (decide (x < y))) else none
    | .leq => if k = k' then some (True, .bool (decide (x ≤ y))) else none
    | .gtr => if k = k' then some (True, .bool (decide (x > y))) else none
    | .geq => if k = k' then some (True, .bool (decide (x ≥ y))) else none
    | _ => none
  | .str x, .str y =>
    match op with
    | .eql => some (True, .bool (x.toList == y.toList))
    | .neq => some (True, .bool (!(x.toList == y.toList)))
    | .add => some (x.size + y.size ≤ 9223372036854775807, .str (x ++ y))
    | .lss => some (True, .bool (Op.bytesLess x.toList y.toList))
    | _ => none
  | _, _ => none

/-- Slices of bytes as text. -/
def bytesOf (es : List (List DV)) : ByteArray :=
  ⟨(es.map fun e => match e with | [.int .u8 n] => UInt8.ofNat n.toNat | _ => 0).toArray⟩

def bytesP (cs : List PV) : ByteArray :=
  ⟨(cs.map fun e => match e with | .d (.int .u8 n) => UInt8.ofNat n.toNat | _ => 0).toArray⟩

def idx? (i : PV) : Option Int :=
  match i with
  | .d (.int _ n) => some n
  | _ => none

/-- The cells that a slice has, and which object is read. -/
def cellsIn (L : List PObj) (z : Nat) : PV → Option (Prop × Nat × List PV × List Nat)
  | .d (.sl es) | .fsl es _ => some (∀ e ∈ es, e.length = z, es.length, es.flatten.map .d, [])
  | .nilsl | .zsl => some (True, 0, [], [])
  | .osl q off m z' _ =>
    match L[q]? with
    | some (.arr cs) => if z' = z then some (off + m * z ≤ cs.length, m, (cs.drop off).take (m * z), [q]) else none
    | _ => none
  | _ => none

/-- What is appended to: how many elements, their cells, which object is given up. -/
def appBase (L : List PObj) (z : Nat) : PV → Option (Prop × Nat × List PV × List (Nat × PObj))
  | .nilsl | .zsl => some (True, 0, [], [])
  | .fsl es true => some (es = [], 0, [], [])
  | .osl q off n z' t =>
    match L[q]? with
    | some (.arr cs) => if z' = z then some (off = 0 ∧ n * z ≤ cs.length ∧ (t = true ∨ cs.length = n * z), n, cs.take (n * z), [(q, .dead)]) else none
    | _ => none
  | _ => none

/-- A slice's bounds, of one that is so long. -/
def bnd (env : List PV) (d : Int) : Option Operand → Option Int
  | none => some d
  | some x => idx? (ev env x)

def bnds (env : List PV) (len : Nat) (lo hi mx : Option Operand) : Option (Int × Int × Int) :=
  match bnd env 0 lo, bnd env len hi, bnd env len mx with
  | some l, some h, some m => some (l, h, m)
  | _, _, _ => none

def peval (env : List PV) (L : List PObj) : POp → Option (Prop × Out)
  | .move x => some (True, .pure (ev env x))
  | .pick c a b =>
    match ev env c with
    | .d (.bool t) =>
      match ev env a, ev env b with
      | .d (.bool x), .d (.bool y) => some (True, .pure (.d (.bool (bif t then x else y))))
      | p, q => some (True, .pure (bif t then p else q))
    | _ => none
  | .alloc zs => some (True, { pv := .ptr L.length 0, upd := [(L.length, .arr zs)] })
  | .box n x => some (isVal (ev env x) = true ∧ (spread (ev env x)).length = n, { pv := .ptr L.length 0, upd := [(L.length, .arr (spread (ev env x)))] })
  | .build zs parts => (fillP zs (parts.map fun (o, n, x) => (o, n, ev env x))).map fun cs => (True, .pure (.agg cs))
  | .bslice z len zs parts => (fillP zs (parts.map fun (o, n, x) => (o, n, ev env x))).map fun cs => (True, { pv := .osl L.length 0 len z true, upd := [(L.length, .arr cs)] })
  | .load1 a =>
    match ev env a with
    | .ptr o off =>
      match L[o]? with
      | some (.arr cs) => cs[off]?.map fun p => (True, { pv := p, rd := [o] })
      | some (.froz cs) => cs[off]?.map fun x => (True, { pv := .d x, rd := [o] })
      | _ => none
    | .fptr e off => e[off]?.map fun x => (True, .pure (.d x))
    | _ => none
  | .loadN n a =>
    match ev env a with
    | .ptr o off =>
      match L[o]? with
      | some (.arr cs) => some (off + n ≤ cs.length, { pv := .agg ((cs.drop off).take n), rd := [o] })
      | some (.froz cs) => some (off + n ≤ cs.length, { pv := .agg (((cs.drop off).take n).map .d), rd := [o] })
      | _ => none
    | .fptr e off => some (off + n ≤ e.length, .pure (.agg (((e.drop off).take n).map .d)))
    | _ => none
  | .store n a v =>
    match ev env a with
    | .ptr o off =>
      match L[o]? with
      | some (.arr cs) => some (isVal (ev env v) = true ∧ (spread (ev env v)).length = n ∧ off + n ≤ cs.length,
          { pv := .und, upd := [(o, .arr (cs.take off ++ spread (ev env v) ++ cs.drop (off + n)))] })
      | _ => none
    | _ => none
  | .nilc x =>
    match ev env x with
    | .ptr o off => some (True, .pure (.ptr o off))
    | .fptr e off => some (True, .pure (.fptr e off))
    | .fn f a b => some (True, .pure (.fn f a b))
    | _ => none
  | .bin op x y =>
    match ev env x, ev env y with
    | .d a, .d b => (binD op a b).map fun (ob, r) => (ob, .pure (.d r))
    | _, _ => none
  | .binB neq x y =>
    match ev env x, ev env y with
    | .d (.bool a), .d (.bool b) => some (True, .pure (.d (.bool (if neq then !(a == b) else a == b))))
    | _, _ => none
  | .isnil kd neq x =>
    match kd, ev env x with
    | 0, .ptr .. | 0, .fptr .. | 1, .fsl .. | 2, .fn .. | 3, .map .. => some (True, .pure (.d (.bool neq)))
    | 0, .d .nilp | 2, .d .nilf | 1, .nilsl => some (True, .pure (.d (.bool (!neq))))
    | _, _ => none
  | .un op x =>
    match op, ev env x with
    | .not, .d (.bool b) => some (True, .pure (.d (.bool (!b))))
    | .neg, .d (.int k n) => some (True, .pure (.d (.int k (k.wrap (0 - n)))))
    | _, _ => none
  | .conv k x =>
    match ev env x with
    | .d (.int _ n) => some (True, .pure (.d (.int k (k.wrap n))))
    | _ => none
  | .b2s x =>
    match ev env x with
    | .d (.sl es) | .fsl es _ => some (∀ e ∈ es, ∃ n : Int, e = [.int .u8 n], .pure (.d (.str (bytesOf es))))
    | .nilsl | .zsl => some (True, .pure (.d (.str ByteArray.empty)))
    | .osl o off n z t =>
      match L[o]? with
      | some (.arr cs) => some (off + n ≤ cs.length ∧ ∀ p ∈ (cs.drop off).take n, ∃ k : Int, p = .d (.int .u8 k), { pv := .d (.str (bytesP ((cs.drop off).take n))), rd := [o] })
      | _ => none
    | _ => none
  | .mark x =>
    match ev env x with
    | .osl q off n z _ =>
      match L[q]? with
      | some (.arr cs) => some (off = 0 ∧ z = 1 ∧ 1 ≤ n ∧ n = cs.length ∧ ∀ p ∈ cs, ∃ x, p = .d x, { pv := .d (.sl (cs.map fun p => match p with | .d x => [x] | _ => [])), upd := [(q, .dead)] })
      | _ => none
    | _ => none
  | .extract x i =>
    match ev env x with
    | .tup vs => vs[i]?.map fun p => (True, .pure p)
    | _ => none
  | .faddr off x =>
    match ev env x with
    | .ptr o k => some (True, .pure (.ptr o (k + off)))
    | .fptr e k => some (True, .pure (.fptr e (k + off)))
    | _ => none
  | .field1 off x =>
    match ev env x with
    | .agg cs => cs[off]?.map fun p => (True, .pure p)
    | _ => none
  | .fieldN off n x =>
    match ev env x with
    | .agg cs => some (off + n ≤ cs.length, .pure (.agg ((cs.drop off).take n)))
    | _ => none
  | .iaddr z x i =>
    match ev env x, idx? (ev env i) with
    | .d (.sl es), some n | .fsl es _, some n => some (0 ≤ n ∧ n.toNat < es.length ∧ ((es[n.toNat]?).getD []).length = z, .pure (.fptr ((es[n.toNat]?).getD []) 0))
    | .osl o off len z' t, some n => if z' = z then some (0 ≤ n ∧ n.toNat < len, .pure (.ptr o (off + n.toNat * z))) else none
    | _, _ => none
  | .iaddrA m z x i =>
    match ev env x, idx? (ev env i) with
    | .ptr o off, some n => some (0 ≤ n ∧ n.toNat < m, .pure (.ptr o (off + n.toNat * z)))
    | .fptr e off, some n => some (0 ≤ n ∧ n.toNat < m, .pure (.fptr e (off + n.toNat * z)))
    | _, _ => none
  | .idxS x i =>
    match ev env x, idx? (ev env i) with
    | .d (.str s), some n => some (0 ≤ n ∧ n.toNat < s.size, .pure (.d (.int .u8 ((s.data[n.toNat]?).getD 0).toNat)))
    | _, _ => none
  | .len x =>
    match ev env x with
    | .d (.sl es) | .fsl es _ => some (True, .pure (.d (.int .i64 es.length)))
    | .nilsl | .zsl => some (True, .pure (.d (.int .i64 0)))
    | .osl _ _ n _ _ => some (True, .pure (.d (.int .i64 n)))
    | _ => none
  | .lenS x =>
    match ev env x with
    | .d (.str s) => some (True, .pure (.d (.int .i64 s.size)))
    | _ => none
  | .append z bytes x y =>
    match appBase L z (ev env x), cellsIn L z (ev env y) with
    | some (ob, n, cs, kill), some (ob', m, ys, rd) =>
      some (ob ∧ ob' ∧ n + m ≤ 1099511627776 ∧ (n + m) * bytes ≤ 140737488355328,
        { pv := .osl L.length 0 (n + m) z false, upd := kill ++ [(L.length, .arr (cs ++ ys))], rd := rd })
    | _, _ => none
  | .slice z x lo hi mx =>
    match ev env x with
    | .d (.sl es) =>
      match bnds env es.length lo hi mx with
      | some (l, h, m) => some (0 ≤ l ∧ l ≤ h ∧ h ≤ m ∧ m ≤ es.length ∧ (∀ e ∈ es, e.length = z),
          .pure (if mx.isSome && m == 0 then .zsl else .d (.sl ((es.drop l.toNat).take (h.toNat - l.toNat)))))
      | none => none
    | .fsl es t =>
      match bnds env es.length lo hi mx with
      | some (l, h, m) => some (0 ≤ l ∧ l ≤ h ∧ h ≤ m ∧ m ≤ es.length ∧ (∀ e ∈ es, e.length = z),
          .pure (.fsl ((es.drop l.toNat).take (h.toNat - l.toNat)) ((mx.isSome || t) && m == h)))
      | none => none
    | .nilsl =>
      match bnds env 0 lo hi mx with
      | some (l, h, m) => some (l = 0 ∧ h = 0 ∧ m = 0, .pure .nilsl)
      | none => none
    | .zsl =>
      match bnds env 0 lo hi mx with
      | some (l, h, m) => some (l = 0 ∧ h = 0 ∧ m = 0, .pure .zsl)
      | none => none
    | .osl q off n z' t =>
      match bnds env n lo hi mx with
      | some (l, h, m) => if z' = z then some (0 ≤ l ∧ l ≤ h ∧ h ≤ m ∧ m ≤ n, .pure (.osl q (off + l.toNat * z) (h.toNat - l.toNat) z ((mx.isSome || t) && m == h))) else none
      | none => none
    | _ => none
  | .sliceA n z x lo hi mx =>
    match ev env x with
    | .ptr q off =>
      match L[q]? with
      | some (.arr cs) =>
        match bnds env n lo hi mx with
        | some (l, h, m) => some (0 ≤ l ∧ l ≤ h ∧ h ≤ m ∧ m ≤ n ∧ off + n * z ≤ cs.length, { pv := .osl q (off + l.toNat * z) (h.toNat - l.toNat) z (m == h), rd := [q] })
        | none => none
      | _ => none
    | _ => none
  | .sliceS x lo hi =>
    match ev env x with
    | .d (.str s) =>
      match bnds env s.size lo hi none with
      | some (l, h, m) => some (0 ≤ l ∧ l ≤ h ∧ h ≤ m, .pure (.d (.str (s.extract l.toNat h.toNat))))
      | none => none
    | _ => none
  | .mkslice z bytes zs l c =>
    match idx? (ev env l), idx? (ev env c) with
    | some n, some k => some (0 ≤ n ∧ n = k ∧ n ≤ 1099511627776 ∧ n * bytes ≤ 140737488355328, { pv := .osl L.length 0 n.toNat z true, upd := [(L.length, .arr ((List.replicate n.toNat zs).flatten))] })
    | _, _ => none
  | .mkfn f caps => some (True, .pure (.fn f [] (caps.map (ev env))))
  | .minmax mx x y =>
    match ev env x, ev env y with
    | .d (.int k a), .d (.int k' b) => if k = k' then some (True, .pure (.d (.int k (if mx then (if b > a then b else a) else (if b < a then b else a))))) else none
    | _, _ => none
  | _ => none

end Go.Fw
