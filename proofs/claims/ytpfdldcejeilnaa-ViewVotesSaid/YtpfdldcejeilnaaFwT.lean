import Derived.Test.YtpfdldcejeilnaaFwZ
set_option linter.unusedVariables false
set_option linter.unusedSimpArgs false
namespace Go.Fw
open Go

/-! ### Typed data: the types of a cell and of an element, and their values in Lean -/

mutual
inductive CT where
  | int (k : IntKind) | bool | str | sl (e : EL)
inductive EL where
  | one (c : CT) | cons (c : CT) (e : EL)
end
mutual
def CT.beq : CT → CT → Bool
  | .int k, .int k' => decide (k = k')
  | .bool, .bool => true
  | .str, .str => true
  | .sl e, .sl e' => EL.beq e e'
  | _, _ => false
def EL.beq : EL → EL → Bool
  | .one c, .one c' => CT.beq c c'
  | .cons c e, .cons c' e' => CT.beq c c' && EL.beq e e'
  | _, _ => false
end
mutual
theorem CT.beq_eq : ∀ {a b : CT}, CT.beq a b = true → a = b
  | .int k, .int k', h => by simp [CT.beq] at h; rw [h]
  | .bool, .bool, _ => rfl
  | .str, .str, _ => rfl
  | .sl e, .sl e', h => by simp [CT.beq] at h; rw [EL.beq_eq h]
  | .int _, .bool, h | .int _, .str, h | .int _, .sl _, h | .bool, .int _, h | .bool, .str, h | .bool, .sl _, h | .str, .int _, h | .str, .bool, h | .str, .sl _, h | .sl _, .int _, h | .sl _, .bool, h | .sl _, .str, h => by simp [CT.beq] at h
theorem EL.beq_eq : ∀ {a b : EL}, EL.beq a b = true → a = b
  | .one c, .one c', h => by simp [EL.beq] at h; rw [CT.beq_eq h]
  | .cons c e, .cons c' e', h => by simp [EL.beq] at h; rw [CT.beq_eq h.1, EL.beq_eq h.2]
  | .one _, .cons _ _, h | .cons _ _, .one _, h => by simp [EL.beq] at h
end
mutual
@[reducible] def CT.T : CT → Type
  | .int _ => Int
  | .bool => Bool
  | .str => ByteArray
  | .sl e => List (EL.T e)
@[reducible] def EL.T : EL → Type
  | .one c => CT.T c
  | .cons c e => CT.T c × EL.T e
end
mutual
def CT.dv : (c : CT) → CT.T c → DV
  | .int k, n => .int k n
  | .bool, b => .bool b
  | .str, s => .str s
  | .sl e, xs => .sl (xs.map fun x => EL.dv e x)
def EL.dv : (e : EL) → EL.T e → List DV
  | .one c, x => [CT.dv c x]
  | .cons c e, x => CT.dv c x.1 :: EL.dv e x.2
end
mutual
def CT.z : (c : CT) → CT.T c
  | .int k => (0 : Int)
  | .bool => false
  | .str => ByteArray.empty
  | .sl e => ([] : List (EL.T e))
def EL.z : (e : EL) → EL.T e
  | .one c => CT.z c
  | .cons c e => (CT.z c, EL.z e)
end
def EL.len : EL → Nat
  | .one _ => 1
  | .cons _ e => EL.len e + 1

/-- A slice's elements, each by its cells. -/
def tl (e : EL) (xs : List e.T) : List (List DV) := xs.map fun x => EL.dv e x
/-- An array's cells. -/
def tc (e : EL) (xs : List e.T) : List PV := (tl e xs).flatten.map .d
/-- An element. -/
def rd (e : EL) (xs : List e.T) (n : Nat) : e.T := xs.getD n e.z
/-- Some elements. -/
def sub {α : Type} (xs : List α) (s n : Nat) : List α := (xs.drop s).take n

theorem dv_len : ∀ (e : EL) (x : e.T), (EL.dv e x).length = e.len
  | .one c, x => by simp [EL.dv, EL.len]
  | .cons c e, x => by simp [EL.dv, EL.len, dv_len e x.2]
theorem len_pos : ∀ e : EL, 0 < e.len
  | .one _ => by simp [EL.len]
  | .cons _ e => by simp [EL.len]
theorem tl_len (e : EL) (xs : List e.T) : (tl e xs).length = xs.length := by simp [tl]
theorem tl_mem {e : EL} {xs : List e.T} : ∀ es ∈ tl e xs, es.length = e.len := by
  intro es h; simp [tl] at h; obtain ⟨x, _, rfl⟩ := h; exact dv_len e x
theorem tl_get {e : EL} {xs : List e.T} {n : Nat} (h : n < xs.length) : ((tl e xs)[n]?).getD [] = EL.dv e (rd e xs n) := by
  simp [tl, rd, h]
theorem tflat_len {A : Type} {z : Nat} : ∀ {l : List (List A)}, (∀ x ∈ l, x.length = z) → l.flatten.length = l.length * z
  | [], _ => by simp
  | x :: l, h => by
    simp only [List.flatten_cons, List.length_append, List.length_cons]
    rw [tflat_len (fun y hy => h y (by simp [hy])), h x (by simp), Nat.add_mul, Nat.add_comm, Nat.one_mul]
theorem tflat_get {A : Type} {z : Nat} : ∀ {l : List (List A)} {i : Nat} {x : List A}, (∀ x ∈ l, x.length = z) → l[i]? = some x → ∀ {off}, off < z → l.flatten[i * z + off]? = x[off]?
  | [], i, x, _, h, off, _ => by simp at h
  | y :: l, 0, x, hz, h, off, ho => by
    simp at h; subst h
    rw [List.flatten_cons, Nat.zero_mul, Nat.zero_add, List.getElem?_append_left (by rw [hz y (by simp)]; exact ho)]
  | y :: l, i + 1, x, hz, h, off, ho => by
    have := hz y (by simp)
    rw [List.flatten_cons, List.getElem?_append_right (by rw [this, Nat.add_mul]; omega)]
    rw [this, show (i + 1) * z + off - z = i * z + off from by rw [Nat.add_mul]; omega]
    exact tflat_get (fun x hx => hz x (by simp [hx])) (by simpa using h) ho
theorem tc_len (e : EL) (xs : List e.T) : (tc e xs).length = xs.length * e.len := by
  rw [tc, List.length_map, tflat_len tl_mem, tl_len]
theorem tl_at {e : EL} {xs : List e.T} {i : Nat} (h : i < xs.length) : (tl e xs)[i]? = some (EL.dv e (rd e xs i)) := by simp [tl, rd, h]
theorem tc_get {e : EL} {xs : List e.T} {i off : Nat} (h : i < xs.length) (ho : off < e.len) : (tc e xs)[i * e.len + off]? = ((EL.dv e (rd e xs i)).map PV.d)[off]? := by
  rw [tc, List.getElem?_map, tflat_get tl_mem (tl_at h) ho, List.getElem?_map]
theorem tl_append (e : EL) (xs ys : List e.T) : tl e (xs ++ ys) = tl e xs ++ tl e ys := by simp [tl]
theorem tc_append (e : EL) (xs ys : List e.T) : tc e (xs ++ ys) = tc e xs ++ tc e ys := by simp [tc, tl]
theorem tc_cons (e : EL) (x : e.T) (xs : List e.T) : tc e (x :: xs) = (EL.dv e x).map .d ++ tc e xs := by simp [tc, tl]
theorem tl_take (e : EL) (xs : List e.T) (n : Nat) : tl e (xs.take n) = (tl e xs).take n := by simp [tl]
theorem tl_drop (e : EL) (xs : List e.T) (n : Nat) : tl e (xs.drop n) = (tl e xs).drop n := by simp [tl]
theorem tflat_take {A : Type} {z : Nat} : ∀ {l : List (List A)} (n : Nat), (∀ x ∈ l, x.length = z) → (l.take n).flatten = l.flatten.take (n * z)
  | [], n, _ => by simp
  | x :: l, 0, _ => by simp
  | x :: l, n + 1, h => by
    rw [List.take_succ_cons, List.flatten_cons, List.flatten_cons, tflat_take n (fun y hy => h y (by simp [hy])), List.take_append, h x (by simp)]
    rw [List.take_of_length_le (l := x) (by rw [h x (by simp), Nat.add_mul]; omega), show (n + 1) * z - z = n * z from by rw [Nat.add_mul]; omega]
theorem tflat_drop {A : Type} {z : Nat} : ∀ {l : List (List A)} (n : Nat), (∀ x ∈ l, x.length = z) → (l.drop n).flatten = l.flatten.drop (n * z)
  | [], n, _ => by simp
  | x :: l, 0, _ => by simp
  | x :: l, n + 1, h => by
    rw [List.drop_succ_cons, List.flatten_cons, tflat_drop n (fun y hy => h y (by simp [hy])), List.drop_append, h x (by simp)]
    rw [List.drop_of_length_le (l := x) (by rw [h x (by simp), Nat.add_mul]; omega), show (n + 1) * z - z = n * z from by rw [Nat.add_mul]; omega, List.nil_append]
theorem tc_take (e : EL) (xs : List e.T) (n : Nat) : tc e (xs.take n) = (tc e xs).take (n * e.len) := by
  rw [tc, tc, tl_take, tflat_take n tl_mem, List.map_take]
theorem tc_drop (e : EL) (xs : List e.T) (n : Nat) : tc e (xs.drop n) = (tc e xs).drop (n * e.len) := by
  rw [tc, tc, tl_drop, tflat_drop n tl_mem, List.map_drop]
theorem tc_sub (e : EL) (xs : List e.T) (s n : Nat) : tc e (sub xs s n) = ((tc e xs).drop (s * e.len)).take (n * e.len) := by
  rw [sub, tc_take, tc_drop]
theorem tc_set {e : EL} {xs : List e.T} {i : Nat} {y : e.T} (h : i < xs.length) : tc e (xs.set i y) = (tc e xs).take (i * e.len) ++ (EL.dv e y).map .d ++ (tc e xs).drop (i * e.len + e.len) := by
  have : xs.set i y = xs.take i ++ [y] ++ xs.drop (i + 1) := by
    rw [List.set_eq_take_append_cons_drop, if_pos h]; simp
  rw [this, tc_append, tc_append, tc_take, tc_drop]
  have : tc e [y] = (EL.dv e y).map .d := by rw [tc_cons]; simp [tc, tl]
  rw [this, Nat.add_mul, Nat.one_mul]

def castL? (a b : EL) (xs : List a.T) : Option (List b.T) :=
  match h : EL.beq a b with
  | true => some (EL.beq_eq h ▸ xs)
  | false => none
theorem castL_spec {a b : EL} {xs : List a.T} {ys : List b.T} (h : castL? a b xs = some ys) : ∃ e : a = b, ys = e ▸ xs := by
  unfold castL? at h
  split at h
  · rename_i hb; cases h; exact ⟨EL.beq_eq hb, rfl⟩
  · cases h
theorem castL_tl {a b : EL} {xs : List a.T} {ys : List b.T} (h : castL? a b xs = some ys) : a = b ∧ tl b ys = tl a xs ∧ ys.length = xs.length := by
  obtain ⟨e, rfl⟩ := castL_spec h
  subst e; exact ⟨rfl, rfl, rfl⟩

/-! ### Typed values and objects -/

/-- What is known of a value. 'sl': a frozen slice. 'fp': a pointer to a cell of a frozen element. 'ep': to cell off of element i of array o (z cells an element). 'ls': a slice over an array that is told cell by cell. 'vf': a slice of all of array o, which has n elements; 'vs': of n ones from s on. -/
inductive TV where
  | int (k : IntKind) (n : Int)
  | bool (b : Bool)
  | str (s : ByteArray)
  | nilp
  | nilf
  | sl (e : EL) (xs : List e.T)
  | agg (cs : List TV)
  | tup (cs : List TV)
  | ptr (o off : Nat)
  | fp (e : EL) (x : e.T) (off : Nat)
  | ep (o z i off : Nat)
  | ls (o off n z : Nat) (t : Bool)
  | vf (o : Nat) (e : EL) (n : Nat) (t : Bool)
  | vs (o : Nat) (e : EL) (s n : Nat) (t : Bool)
  | nilsl
  | zsl
  | fn (f : FuncId) (first caps : List TV)
  | map (o : Nat)
  | und
  | dead
  deriving Inhabited

inductive TO where
  | arr (cs : List TV)
  | vec (e : EL) (xs : List e.T)
  | dead
  deriving Inhabited

mutual
def er : TV → PV
  | .int k n => .d (.int k n)
  | .bool b => .d (.bool b)
  | .str s => .d (.str s)
  | .nilp => .d .nilp
  | .nilf => .d .nilf
  | .sl e xs => .d (.sl (tl e xs))
  | .agg cs => .agg (erL cs)
  | .tup cs => .tup (erL cs)
  | .ptr o off => .ptr o off
  | .fp e x off => .fptr (EL.dv e x) off
  | .ep o z i off => .ptr o (i * z + off)
  | .ls o off n z t => .osl o off n z t
  | .vf o e n t => .osl o 0 n e.len t
  | .vs o e s n t => .osl o (s * e.len) n e.len t
  | .nilsl => .nilsl
  | .zsl => .zsl
  | .fn f a b => .fn f (erL a) (erL b)
  | .map o => .map o
  | .und => .und
  | .dead => .dead
def erL : List TV → List PV
  | [] => []
  | v :: r => er v :: erL r
end
theorem erL_map : ∀ l, erL l = l.map er
  | [] => rfl
  | v :: r => by simp [erL, erL_map r]
def erO : TO → PObj
  | .arr cs => .arr (erL cs)
  | .vec e xs => .arr (tc e xs)
  | .dead => .dead
def erOL (L : List TO) : List PObj := L.map erO

theorem erL_get (l : List TV) (i : Nat) : (erL l)[i]? = (l[i]?).map er := by rw [erL_map, List.getElem?_map]
theorem erL_len (l : List TV) : (erL l).length = l.length := by rw [erL_map, List.length_map]
theorem erOL_get (l : List TO) (i : Nat) : (erOL l)[i]? = (l[i]?).map erO := by rw [erOL, List.getElem?_map]
theorem erOL_len (l : List TO) : (erOL l).length = l.length := by rw [erOL, List.length_map]
theorem erL_append (a b : List TV) : erL (a ++ b) = erL a ++ erL b := by simp [erL_map]
theorem erL_take (a : List TV) (n : Nat) : erL (a.take n) = (erL a).take n := by simp [erL_map, List.map_take]
theorem erL_drop (a : List TV) (n : Nat) : erL (a.drop n) = (erL a).drop n := by simp [erL_map, List.map_drop]

/-- An element's cells. -/
def CT.tv : (c : CT) → c.T → TV
  | .int k, n => .int k n
  | .bool, b => .bool b
  | .str, s => .str s
  | .sl e, xs => .sl e xs
def EL.tv : (e : EL) → e.T → List TV
  | .one c, x => [CT.tv c x]
  | .cons c e, x => CT.tv c x.1 :: EL.tv e x.2
theorem er_ctv : ∀ (c : CT) (x : c.T), er (CT.tv c x) = .d (CT.dv c x)
  | .int k, n => rfl
  | .bool, b => rfl
  | .str, s => rfl
  | .sl e, xs => by simp [CT.tv, er, CT.dv, tl]
theorem er_etv : ∀ (e : EL) (x : e.T), erL (EL.tv e x) = (EL.dv e x).map .d
  | .one c, x => by simp only [EL.tv, EL.dv, erL, List.map_cons, List.map_nil]; rw [er_ctv c x]
  | .cons c e, x => by simp only [EL.tv, EL.dv, erL, List.map_cons]; rw [er_ctv c x.1, er_etv e x.2]
theorem etv_len (e : EL) (x : e.T) : (EL.tv e x).length = e.len := by
  have := congrArg List.length (er_etv e x)
  rwa [erL_len, List.length_map, dv_len] at this

def decI (k : IntKind) : TV → Option Int
  | .int k' n => if k = k' then some n else none
  | _ => none
def decB : TV → Option Bool
  | .bool b => some b
  | _ => none
def decSt : TV → Option ByteArray
  | .str b => some b
  | _ => none
def decSl (e : EL) : TV → Option (List e.T)
  | .sl e' xs => castL? e' e xs
  | .nilsl => some []
  | .zsl => some []
  | _ => none
def CT.dec : (c : CT) → TV → Option c.T
  | .int k => decI k
  | .bool => decB
  | .str => decSt
  | .sl e => decSl e
def EL.dec : (e : EL) → List TV → Option e.T
  | .one c => fun vs =>
    match vs with
    | [v] => CT.dec c v
    | _ => none
  | .cons c e => fun vs =>
    match vs with
    | v :: r =>
      match CT.dec c v, EL.dec e r with
      | some x, some y => some (x, y)
      | _, _ => none
    | [] => none
theorem cdec_spec : ∀ (c : CT) (v : TV) (x : c.T), CT.dec c v = some x → Le (er v) (.d (CT.dv c x))
  | .int k, v, x, h => by
    change decI k v = some x at h
    unfold decI at h
    split at h
    · split at h
      · rename_i hk; subst hk; cases h; exact Le.refl _
      · cases h
    · cases h
  | .bool, v, x, h => by
    change decB v = some x at h
    unfold decB at h
    split at h
    · cases h; exact Le.refl _
    · cases h
  | .str, v, x, h => by
    change decSt v = some x at h
    unfold decSt at h
    split at h
    · cases h; exact Le.refl _
    · cases h
  | .sl e, v, x, h => by
    change decSl e v = some x at h
    unfold decSl at h
    split at h
    · obtain ⟨he, hx⟩ := castL_spec h
      subst he; subst hx
      exact Le.refl _
    · cases h; exact Le.nilsl
    · cases h; exact Le.zsl
    · cases h
theorem edec_spec : ∀ {e : EL} {vs : List TV} {x : e.T}, EL.dec e vs = some x → LeL (erL vs) ((EL.dv e x).map .d)
  | .one c, [], x, h => by simp [EL.dec] at h
  | .one c, [v], x, h => by
    simp only [EL.dec] at h
    exact ⟨cdec_spec _ _ _ h, trivial⟩
  | .one c, _ :: _ :: _, x, h => by simp [EL.dec] at h
  | .cons c e, [], x, h => by simp [EL.dec] at h
  | .cons c e, v :: vs, x, h => by
    simp only [EL.dec] at h
    split at h
    · rename_i a b ha hb
      cases h
      exact ⟨cdec_spec _ _ _ ha, edec_spec hb⟩
    · cases h
def decs (e : EL) : Nat → List TV → Option (List e.T)
  | 0, [] => some []
  | 0, _ => none
  | n + 1, vs =>
    match EL.dec e (vs.take e.len), decs e n (vs.drop e.len) with
    | some x, some xs => some (x :: xs)
    | _, _ => none
theorem LeL.append : ∀ {a b c d : List PV}, LeL a b → LeL c d → LeL (a ++ c) (b ++ d)
  | [], [], c, d, _, h => h
  | p :: a, q :: b, c, d, h1, h2 => ⟨h1.1, LeL.append h1.2 h2⟩
  | [], _ :: _, _, _, h, _ => h.elim
  | _ :: _, [], _, _, h, _ => h.elim
theorem decs_spec {e : EL} : ∀ {n : Nat} {vs : List TV} {xs : List e.T}, decs e n vs = some xs → xs.length = n ∧ LeL (erL vs) (tc e xs)
  | 0, [], xs, h => by simp only [decs] at h; cases h; exact ⟨rfl, trivial⟩
  | 0, _ :: _, xs, h => by simp [decs] at h
  | n + 1, vs, xs, h => by
    simp only [decs] at h
    split at h
    · rename_i x ys hx hy
      cases h
      obtain ⟨h1, h2⟩ := decs_spec hy
      refine ⟨by simp [h1], ?_⟩
      rw [tc_cons]
      have := LeL.append (edec_spec hx) h2
      rwa [← erL_append, List.take_append_drop] at this
    · cases h

end Go.Fw
