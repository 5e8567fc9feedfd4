/- Plain laws for the hash statements, no program in sight: the digit of a number at a level, the hash value as a fold over bytes, and bit operations on 64-bit numbers. No conditions beyond those written. -/
import Derived.WalkKit
import Derived.WalkLawsBesides
namespace Go.Proofs.Ytingoaklioplaaa
open Go.RowKit

/-- The digit in base 4 of a at level l; 0 outside the levels 0 to 31. -/
def dig (a l : Int) : Int := if 0 ≤ l ∧ l ≤ 31 then a / 4 ^ l.toNat % 4 else 0

theorem dig_in {a l : Int} (h0 : 0 ≤ l) (h1 : l ≤ 31) : dig a l = a / 4 ^ l.toNat % 4 := by unfold dig; rw [if_pos ⟨h0, h1⟩]
theorem dig_low {a l : Int} (h : l < 0) : dig a l = 0 := by unfold dig; rw [if_neg (by omega)]
theorem dig_high {a l : Int} (h : 32 ≤ l) : dig a l = 0 := by unfold dig; rw [if_neg (by omega)]
theorem dig_nonneg (a l : Int) : 0 ≤ dig a l := by unfold dig; split <;> omega
theorem dig_le (a l : Int) : dig a l ≤ 3 := by unfold dig; split <;> omega

theorem bits_and3 (n : Nat) (h : n < 18446744073709551616) : bits .and .u64 (n : Int) 3 = ((n % 4 : Nat) : Int) := by
  have h1 : (BitVec.ofInt 64 (n : Int)).toNat = n := by
    rw [BitVec.ofInt_natCast, BitVec.toNat_ofNat]; exact Nat.mod_eq_of_lt (by omega)
  have h3 : (BitVec.ofInt 64 3).toNat = 3 := by decide
  show IntKind.u64.wrap ((BitVec.ofInt 64 (n : Int) &&& BitVec.ofInt 64 3).toNat : Int) = _
  rw [BitVec.toNat_and, h1, h3, IntKind.wrap_u64]
  have e : n &&& 3 = n % 4 := Nat.and_two_pow_sub_one_eq_mod n 2
  rw [e]; omega

theorem pow24 (k : Nat) : (2 : Int) ^ (2 * k) = 4 ^ k := by
  rw [Int.pow_mul]; rfl

/-- What the program's Digit reckons is the digit. -/
theorem dig_shift {a l : Int} (h0 : 0 ≤ a) (h1 : a ≤ 18446744073709551615) (l0 : 0 ≤ l) (l1 : l ≤ 31) :
    wrap64 (bits BinOp.and IntKind.u64 (a / 2 ^ (2 * l).toNat) 3) = dig a l := by
  obtain ⟨n, rfl⟩ := Int.eq_ofNat_of_zero_le h0
  obtain ⟨k, rfl⟩ := Int.eq_ofNat_of_zero_le l0
  rw [dig_in l0 l1, show (2 * (k : Int)).toNat = 2 * k by omega, pow24, Int.toNat_natCast]
  have e : ((n : Int) / 4 ^ k) = ((n / 4 ^ k : Nat) : Int) := by rw [Int.natCast_ediv, Int.natCast_pow]; rfl
  rw [e, bits_and3 _ (Nat.lt_of_le_of_lt (Nat.div_le_self _ _) (by omega))]
  unfold wrap64; omega

theorem div4_succ (a : Int) (k : Nat) : a / 4 ^ k / 4 = a / 4 ^ (k + 1) := by
  rw [Int.ediv_ediv_of_nonneg (Int.pow_nonneg (by decide)), Int.pow_succ]

theorem div4_nonneg {a : Int} (h : 0 ≤ a) (k : Nat) : 0 ≤ a / 4 ^ k := Int.ediv_nonneg h (Int.pow_nonneg (by decide))
theorem div4_le {a : Int} (h : 0 ≤ a) (k : Nat) : a / 4 ^ k ≤ a := Int.ediv_le_self _ h

/-- One step of the hash: a byte is combined, then multiplied. -/
def hstep (x : Int) (c : UInt8) : Int := IntKind.u64.wrap (bits BinOp.xor IntKind.u64 x (c.toNat : Int) * 1099511628211)
/-- The hash behind the bytes l. -/
def hfold (seed : Int) (l : List UInt8) : Int := l.foldl hstep (bits BinOp.xor IntKind.u64 seed 14695981039346656037)
/-- The end of the hash. -/
def hend (x : Int) : Int :=
  bits BinOp.xor IntKind.u64
    (IntKind.u64.wrap (bits BinOp.xor IntKind.u64 x (x / 4294967296) * 11400714819323198485))
    (IntKind.u64.wrap (bits BinOp.xor IntKind.u64 x (x / 4294967296) * 11400714819323198485) / 536870912)
/-- The hash value of a text by a seed. -/
def hsum (seed : Int) (l : List UInt8) : Int := hend (hfold seed l)

theorem hfold_snoc (seed : Int) (l : List UInt8) (c : UInt8) : hfold seed (l ++ [c]) = hstep (hfold seed l) c := by
  unfold hfold; rw [List.foldl_append]; rfl
theorem wrap_u64_nonneg (x : Int) : 0 ≤ IntKind.u64.wrap x := by rw [IntKind.wrap_u64]; omega
theorem wrap_u64_le (x : Int) : IntKind.u64.wrap x ≤ 18446744073709551615 := by rw [IntKind.wrap_u64]; omega
theorem bits_u64_range (o : BinOp) (a b : Int) (h : o = .xor) : 0 ≤ bits o IntKind.u64 a b ∧ bits o IntKind.u64 a b ≤ 18446744073709551615 := by
  subst h
  exact ⟨wrap_u64_nonneg _, wrap_u64_le _⟩
theorem hfold_range (seed : Int) (l : List UInt8) : 0 ≤ hfold seed l ∧ hfold seed l ≤ 18446744073709551615 := by
  rcases List.eq_nil_or_concat l with rfl | ⟨l', c, rfl⟩
  · exact bits_u64_range .xor _ _ rfl
  · rw [List.concat_eq_append, hfold_snoc]; exact ⟨wrap_u64_nonneg _, wrap_u64_le _⟩
theorem hsum_range (seed : Int) (l : List UInt8) : 0 ≤ hsum seed l ∧ hsum seed l ≤ 18446744073709551615 := bits_u64_range .xor _ _ rfl

theorem take_snoc (s : ByteArray) (k : Nat) (h : k < s.size) : s.data.toList.take (k + 1) = s.data.toList.take k ++ [s[k]] := by
  rw [List.take_succ_eq_append_getElem (by simpa using h)]; rfl
theorem ret_int {k : IntKind} {a b : Int} (h : a = b) : Ending.returned (.int k a) = .returned (.int k b) := by rw [h]
end Go.Proofs.Ytingoaklioplaaa
