import Derived.Test.YtpfdldcejeilnaaFxI
import Derived.IntWalk
import Derived.Laws.Bits64
import Derived.WideShapes
set_option linter.unusedVariables false
set_option linter.unusedSimpArgs false
namespace Go.Fw
open Go

/-! ### Choices, numbers, texts: for proofs about what code computes -/

theorem Br_t {p : Prop} [Decidable p] {A B : Prop} (h : p) (a : A) : Br (decide p) A B := by rw [decide_eq_true h]; exact a
theorem Br_f {p : Prop} [Decidable p] {A B : Prop} (h : ¬ p) (b : B) : Br (decide p) A B := by rw [decide_eq_false h]; exact b
theorem Br_et {x y : Int} {A B : Prop} (h : x = y) (a : A) : Br (x == y) A B := by rw [beq_iff_eq.2 h]; exact a
theorem Br_ef {x y : Int} {A B : Prop} (h : x ≠ y) (b : B) : Br (x == y) A B := by rw [beq_eq_false_iff_ne.2 h]; exact b
theorem Br_bt {b : Bool} {A B : Prop} (h : b = true) (a : A) : Br b A B := by rw [h]; exact a
theorem Br_bf {b : Bool} {A B : Prop} (h : b = false) (c : B) : Br b A B := by rw [h]; exact c

theorem addK_i64 {x y : Int} (h : -9223372036854775808 ≤ x + y ∧ x + y ≤ 9223372036854775807) : addK .i64 x y = x + y := IntWalk.i64_in _ h
theorem subK_i64 {x y : Int} (h : -9223372036854775808 ≤ x - y ∧ x - y ≤ 9223372036854775807) : subK .i64 x y = x - y := IntWalk.i64_in _ h
theorem mulK_i64 {x y : Int} (h : -9223372036854775808 ≤ x * y ∧ x * y ≤ 9223372036854775807) : mulK .i64 x y = x * y := IntWalk.i64_in _ h
theorem negK_i64 {x : Int} (h : -9223372036854775808 ≤ 0 - x ∧ 0 - x ≤ 9223372036854775807) : negK .i64 x = 0 - x := IntWalk.i64_in _ h
theorem convK_i64 {x : Int} (h : -9223372036854775808 ≤ x ∧ x ≤ 9223372036854775807) : convK .i64 x = x := IntWalk.i64_in _ h
theorem wrap_i64e (n : Int) : IntKind.i64.wrap n = (n + 9223372036854775808) % 18446744073709551616 - 9223372036854775808 := by
  rw [IntKind.wrap_i64]
theorem addK_u64 {x y : Int} (h : 0 ≤ x + y ∧ x + y < 18446744073709551616) : addK .u64 x y = x + y := by unfold addK; rw [IntKind.wrap_u64]; omega
theorem mulK_u64 {x y : Int} (h : 0 ≤ x * y ∧ x * y < 18446744073709551616) : mulK .u64 x y = x * y := by unfold mulK; rw [IntKind.wrap_u64]; omega
theorem convK_u64m (x : Int) : convK .u64 x = x % 18446744073709551616 := IntKind.wrap_u64 x
theorem convK_u64 {x : Int} (h : 0 ≤ x ∧ x < 18446744073709551616) : convK .u64 x = x := by rw [convK_u64m]; omega
theorem wrap_u8e (n : Int) : IntKind.u8.wrap n = n % 256 := by simp [IntKind.wrap, IntKind.bits, IntKind.signed]
theorem wrap_u32e (n : Int) : IntKind.u32.wrap n = n % 4294967296 := by simp [IntKind.wrap, IntKind.bits, IntKind.signed]
theorem convK_u8 (x : Int) : convK .u8 x = x % 256 := wrap_u8e x
theorem convK_u32 (x : Int) : convK .u32 x = x % 4294967296 := wrap_u32e x
theorem addK_u8 (x y : Int) : addK .u8 x y = (x + y) % 256 := wrap_u8e _
theorem remK_nn {x y : Int} (h : 0 ≤ x) : remK x y = x % y := Int.tmod_eq_emod_of_nonneg h
theorem quoK_u64 {x y : Int} (h : 0 ≤ x ∧ x < 18446744073709551616) (hy : 0 ≤ y) : quoK .u64 x y = x / y := by
  unfold quoK
  rw [Int.tdiv_eq_ediv_of_nonneg h.1, IntKind.wrap_u64, Int.emod_eq_of_lt (Int.ediv_nonneg h.1 hy)]
  exact Int.lt_of_le_of_lt (Int.ediv_le_self _ h.1) h.2
theorem quoK_i64 {x y : Int} (h : 0 ≤ x ∧ x ≤ 9223372036854775807) (hy : 0 ≤ y) : quoK .i64 x y = x / y := by
  unfold quoK
  rw [Int.tdiv_eq_ediv_of_nonneg h.1]
  refine IntWalk.i64_in _ ⟨?_, ?_⟩
  · have := Int.ediv_nonneg h.1 hy; omega
  · have := Int.ediv_le_self y h.1; omega
theorem shrK_eq (k : IntKind) (x : Int) (s : Nat) (h : s ≤ k.bits) : shrK k x s = x / 2 ^ s := by
  unfold shrK
  rw [Int.toNat_natCast, Nat.min_eq_left h]
  exact Int.fdiv_eq_ediv_of_nonneg x (Int.le_of_lt (Int.pow_pos (by decide)))
theorem shlK_u64 (x : Int) (s : Nat) (h : s ≤ 64) : shlK .u64 x s = x * 2 ^ s % 18446744073709551616 := by
  unfold shlK
  rw [Int.toNat_natCast, Nat.min_eq_left (show s ≤ IntKind.u64.bits from h), IntKind.wrap_u64]

theorem ofInt_nat {w : Nat} {x : Int} (h0 : 0 ≤ x) (h : x < 2 ^ w) : (BitVec.ofInt w x).toNat = x.toNat := by
  rw [BitVec.toNat_ofInt]
  congr 1
  exact Int.emod_eq_of_lt h0 (by simpa using h)
theorem wrap_nat {k : IntKind} (hs : k.signed = false) {n : Nat} (h : n < 2 ^ k.bits) : k.wrap (n : Int) = n := by
  unfold IntKind.wrap
  simp only [hs]
  have : ((n : Int)) % 2 ^ k.bits = n := Int.emod_eq_of_lt (by omega) (by exact_mod_cast h)
  simpa using this
theorem andK_nat {k : IntKind} (hs : k.signed = false) {x y : Int} (hx : 0 ≤ x ∧ x < 2 ^ k.bits) (hy : 0 ≤ y ∧ y < 2 ^ k.bits) : andK k x y = ((x.toNat &&& y.toNat : Nat) : Int) := by
  unfold andK
  rw [BitVec.toNat_and, ofInt_nat hx.1 hx.2, ofInt_nat hy.1 hy.2]
  refine wrap_nat hs (Nat.lt_of_le_of_lt Nat.and_le_left ?_)
  have := hx.2; have := hx.1
  have : (x.toNat : Int) < ((2 ^ k.bits : Nat) : Int) := by rw [Int.toNat_of_nonneg hx.1]; exact_mod_cast hx.2
  exact_mod_cast this
theorem toNat_lt_pow {k : Nat} {x : Int} (hx : 0 ≤ x ∧ x < 2 ^ k) : x.toNat < 2 ^ k := by
  have : (x.toNat : Int) < ((2 ^ k : Nat) : Int) := by rw [Int.toNat_of_nonneg hx.1]; exact_mod_cast hx.2
  exact_mod_cast this
theorem orK_nat {k : IntKind} (hs : k.signed = false) {x y : Int} (hx : 0 ≤ x ∧ x < 2 ^ k.bits) (hy : 0 ≤ y ∧ y < 2 ^ k.bits) : orK k x y = ((x.toNat ||| y.toNat : Nat) : Int) := by
  unfold orK
  rw [BitVec.toNat_or, ofInt_nat hx.1 hx.2, ofInt_nat hy.1 hy.2]
  exact wrap_nat hs (Nat.or_lt_two_pow (toNat_lt_pow hx) (toNat_lt_pow hy))
theorem xorK_nat {k : IntKind} (hs : k.signed = false) {x y : Int} (hx : 0 ≤ x ∧ x < 2 ^ k.bits) (hy : 0 ≤ y ∧ y < 2 ^ k.bits) : xorK k x y = ((x.toNat ^^^ y.toNat : Nat) : Int) := by
  unfold xorK
  rw [BitVec.toNat_xor, ofInt_nat hx.1 hx.2, ofInt_nat hy.1 hy.2]
  exact wrap_nat hs (Nat.xor_lt_two_pow (toNat_lt_pow hx) (toNat_lt_pow hy))
theorem or_add (a y s : Nat) (h : a < 2 ^ s) : a ||| (y * 2 ^ s) = a + y * 2 ^ s := by
  rw [Nat.or_comm, Nat.mul_comm, ← Nat.two_pow_add_eq_or_of_lt h, Nat.add_comm]

theorem toList_loop (b : ByteArray) : ∀ (k i : Nat) (acc : List UInt8), b.size - i = k → ByteArray.toList.loop b i acc = acc.reverse ++ b.data.toList.drop i := by
  intro k
  induction k with
  | zero =>
    intro i acc h
    have hs : b.data.toList.length ≤ i := by have : b.data.toList.length = b.size := Array.length_toList
                                             omega
    rw [ByteArray.toList.loop, if_neg (by omega), List.drop_of_length_le hs, List.append_nil]
  | succ k ih =>
    intro i acc h
    have hlt : i < b.size := by omega
    rw [ByteArray.toList.loop, if_pos hlt, ih (i + 1) _ (by omega)]
    have hl : i < b.data.toList.length := by have : b.data.toList.length = b.size := Array.length_toList
                                             omega
    have hg : b.get! i = b.data.toList[i] := by
      have : i < b.data.size := hlt
      show b.data[i]! = b.data.toList[i]
      rw [getElem!_pos b.data i this]; simp
    rw [List.drop_eq_getElem_cons hl, List.reverse_cons, List.append_assoc, hg]; rfl
theorem toList_data (b : ByteArray) : b.toList = b.data.toList := by
  rw [ByteArray.toList, toList_loop b b.size 0 [] (by omega)]; rfl
theorem streq_eq (x y : ByteArray) : streq x y = decide (x = y) := by
  unfold streq
  rw [toList_data, toList_data, Bool.eq_iff_iff]
  simp only [beq_iff_eq, decide_eq_true_eq]
  exact ⟨fun h => by
    obtain ⟨⟨a⟩⟩ := x
    obtain ⟨⟨b⟩⟩ := y
    simp only at h
    subst h; rfl, fun h => h ▸ rfl⟩
theorem streq_self (x : ByteArray) : streq x x = true := by rw [streq_eq]; simp
/-- Bytes, as numbers. -/
def IsB (xs : List Int) : Prop := ∀ x ∈ xs, 0 ≤ x ∧ x < 256
theorem ofNat_inj : ∀ {xs ys : List Int}, IsB xs → IsB ys → (xs.map fun n => UInt8.ofNat n.toNat) = (ys.map fun n => UInt8.ofNat n.toNat) → xs = ys
  | [], [], _, _, _ => rfl
  | [], _ :: _, _, _, h => by simp at h
  | _ :: _, [], _, _, h => by simp at h
  | x :: xs, y :: ys, hx, hy, h => by
    simp only [List.map_cons, List.cons.injEq] at h
    have h1 := hx x (by simp); have h2 := hy y (by simp)
    have e : x = y := by
      have := congrArg UInt8.toNat h.1
      simp only [UInt8.toNat_ofNat'] at this
      omega
    rw [e, ofNat_inj (fun z hz => hx z (by simp [hz])) (fun z hz => hy z (by simp [hz])) h.2]
theorem bytesT_inj {xs ys : List Int} (hx : IsB xs) (hy : IsB ys) (h : bytesT xs = bytesT ys) : xs = ys := by
  have h := congrArg (fun b => b.data.toList) h
  simp only [bytesT] at h
  exact ofNat_inj hx hy h
theorem streq_bytes {xs ys : List Int} (hx : IsB xs) (hy : IsB ys) : streq (bytesT xs) (bytesT ys) = decide (xs = ys) := by
  rw [streq_eq, Bool.eq_iff_iff]
  simp only [decide_eq_true_eq]
  exact ⟨bytesT_inj hx hy, fun h => h ▸ rfl⟩
theorem sub_zero {α : Type} (xs : List α) (n : Nat) : sub xs 0 n = xs.take n := by simp [sub]

end Go.Fw
