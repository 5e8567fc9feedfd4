/- Plain laws for the pack statements, no program in sight: numbers in four or eight bytes, the highest first, their order, and the value of a text of bytes. Conditions: the numbers are within the bytes' range. -/
import Derived.WalkKit
import Derived.WalkLawsBesides
import Derived.Laws.BytesArg
namespace Go.Proofs.Ytingoaklioplaaa
open Go.RowKit

/-- The value of some bytes, the highest first. -/
def bval : List UInt8 → Nat
  | [] => 0
  | c :: l => c.toNat * 256 ^ l.length + bval l

theorem bval_lt : ∀ l : List UInt8, bval l < 256 ^ l.length
  | [] => by simp [bval]
  | c :: l => by
    have h := bval_lt l
    have hc := c.toNat_lt
    rw [bval, List.length_cons, Nat.pow_succ]
    have : c.toNat * 256 ^ l.length + 256 ^ l.length ≤ 256 * 256 ^ l.length := by
      rw [← Nat.succ_mul]; exact Nat.mul_le_mul_right _ (by omega)
    omega

theorem bval_snoc : ∀ (l : List UInt8) (c : UInt8), bval (l ++ [c]) = bval l * 256 + c.toNat
  | [], c => by simp [bval]
  | d :: l, c => by
    rw [List.cons_append, bval, bval_snoc l c, bval, List.length_append, Nat.add_mul]
    simp only [List.length_cons, List.length_nil]
    rw [Nat.pow_succ, ← Nat.mul_assoc]; omega

theorem bval_inj : ∀ {l m : List UInt8}, l.length = m.length → bval l = bval m → l = m
  | [], [], _, _ => rfl
  | [], _ :: _, h, _ => by simp at h
  | _ :: _, [], h, _ => by simp at h
  | a :: l, b :: m, h, e => by
    have hl : l.length = m.length := by simpa using h
    have h1 := bval_lt l
    have h2 := bval_lt m
    rw [bval, bval, hl] at e
    rw [hl] at h1
    have hab : a.toNat = b.toNat := by
      rcases Nat.lt_trichotomy a.toNat b.toNat with h | h | h
      · have := Nat.mul_le_mul_right (256 ^ m.length) h
        rw [Nat.succ_mul] at this; omega
      · exact h
      · have := Nat.mul_le_mul_right (256 ^ m.length) h
        rw [Nat.succ_mul] at this; omega
    rw [hab] at e
    rw [UInt8.toNat_inj.1 hab, bval_inj hl (by omega)]

theorem bytesLess_bval : ∀ {l m : List UInt8}, l.length = m.length → Op.bytesLess l m = decide (bval l < bval m)
  | [], [], _ => by simp [Op.bytesLess, bval]
  | [], _ :: _, h => by simp at h
  | _ :: _, [], h => by simp at h
  | a :: l, b :: m, h => by
    have hl : l.length = m.length := by simpa using h
    have h1 := bval_lt l
    have h2 := bval_lt m
    rw [Op.bytesLess, bytesLess_bval hl, bval, bval, hl]
    rw [hl] at h1
    have ht : (a < b) ↔ a.toNat < b.toNat := UInt8.lt_iff_toNat_lt
    rcases Nat.lt_trichotomy a.toNat b.toNat with h | h | h
    · have := Nat.mul_le_mul_right (256 ^ m.length) h
      rw [Nat.succ_mul] at this
      rw [decide_eq_true (ht.2 h), Bool.true_or, decide_eq_true (by omega)]
    · have e : a = b := UInt8.toNat_inj.1 h
      subst e
      simp
    · have := Nat.mul_le_mul_right (256 ^ m.length) h
      rw [Nat.succ_mul] at this
      have hne : (a == b) = false := by
        rw [beq_eq_false_iff_ne]; intro e; subst e; omega
      rw [hne, Bool.false_and, Bool.or_false]
      rw [decide_eq_false (by rw [ht]; omega), decide_eq_false (by omega)]

/-- Four and eight bytes of a number, the highest first. -/
def be4 (n : Int) : List Int := [n / 16777216 % 256, n / 65536 % 256, n / 256 % 256, n % 256]
def be8 (n : Int) : List Int := [n / 72057594037927936 % 256, n / 281474976710656 % 256, n / 1099511627776 % 256, n / 4294967296 % 256, n / 16777216 % 256, n / 65536 % 256, n / 256 % 256, n % 256]
/-- The text of a number in eight bytes. -/
def bs8 (n : Int) : ByteArray := strOfNums (be8 n)

theorem byte_toNat {n : Int} (h0 : 0 ≤ n) (h1 : n ≤ 255) : (UInt8.ofNat n.toNat).toNat = n.toNat := by
  rw [UInt8.toNat_ofNat']; omega
theorem bs8_list (n : Int) : (bs8 n).data.toList = (be8 n).map fun x => UInt8.ofNat x.toNat := rfl
theorem bs8_size (n : Int) : (bs8 n).size = 8 := rfl
theorem bval8 (a b c d e f g h : UInt8) : bval [a, b, c, d, e, f, g, h] = a.toNat * 72057594037927936 + (b.toNat * 281474976710656 + (c.toNat * 1099511627776 + (d.toNat * 4294967296 + (e.toNat * 16777216 + (f.toNat * 65536 + (g.toNat * 256 + h.toNat)))))) := by
  simp only [bval, List.length_cons, List.length_nil, Nat.reduceAdd, Nat.reducePow, Nat.pow_zero, Nat.mul_one, Nat.add_zero]
theorem bval4 (e f g h : UInt8) : bval [e, f, g, h] = e.toNat * 16777216 + (f.toNat * 65536 + (g.toNat * 256 + h.toNat)) := by
  simp only [bval, List.length_cons, List.length_nil, Nat.reduceAdd, Nat.reducePow, Nat.pow_zero, Nat.mul_one, Nat.add_zero]
theorem byte_mod (x : Int) : (UInt8.ofNat (x % 256).toNat).toNat = (x % 256).toNat := byte_toNat (by omega) (by omega)
theorem digits8 {n : Int} (h0 : 0 ≤ n) (h1 : n ≤ 18446744073709551615) :
    (((n / 72057594037927936 % 256).toNat * 72057594037927936 + ((n / 281474976710656 % 256).toNat * 281474976710656 + ((n / 1099511627776 % 256).toNat * 1099511627776 + ((n / 4294967296 % 256).toNat * 4294967296 + ((n / 16777216 % 256).toNat * 16777216 + ((n / 65536 % 256).toNat * 65536 + ((n / 256 % 256).toNat * 256 + (n % 256).toNat)))))) : Nat) : Int) = n := by
  have e1 : n = 256 * (n / 256) + n % 256 := by omega
  have e2 : n / 256 = 256 * (n / 65536) + n / 256 % 256 := by omega
  have e3 : n / 65536 = 256 * (n / 16777216) + n / 65536 % 256 := by omega
  have e4 : n / 16777216 = 256 * (n / 4294967296) + n / 16777216 % 256 := by omega
  have e5 : n / 4294967296 = 256 * (n / 1099511627776) + n / 4294967296 % 256 := by omega
  have e6 : n / 1099511627776 = 256 * (n / 281474976710656) + n / 1099511627776 % 256 := by omega
  have e7 : n / 281474976710656 = 256 * (n / 72057594037927936) + n / 281474976710656 % 256 := by omega
  have e8 : n / 72057594037927936 % 256 = n / 72057594037927936 := by omega
  have p : ∀ x : Int, ((x % 256).toNat : Int) = x % 256 := fun x => by omega
  simp only [Int.natCast_add, Int.natCast_mul, p]
  rw [e8]
  generalize n / 72057594037927936 = q7 at *
  generalize n / 281474976710656 = q6 at *
  generalize n / 1099511627776 = q5 at *
  generalize n / 4294967296 = q4 at *
  generalize n / 16777216 = q3 at *
  generalize n / 65536 = q2 at *
  generalize n / 256 = q1 at *
  generalize n % 256 = r0 at *
  generalize q1 % 256 = r1 at *
  generalize q2 % 256 = r2 at *
  generalize q3 % 256 = r3 at *
  generalize q4 % 256 = r4 at *
  generalize q5 % 256 = r5 at *
  generalize q6 % 256 = r6 at *
  clear p e8 h0 h1
  subst e1 e2 e3 e4 e5 e6 e7
  omega
theorem bval_bs8 {n : Int} (h0 : 0 ≤ n) (h1 : n ≤ 18446744073709551615) : (bval (bs8 n).data.toList : Int) = n := by
  rw [bs8_list]
  unfold be8
  rw [List.map_cons, List.map_cons, List.map_cons, List.map_cons, List.map_cons, List.map_cons, List.map_cons, List.map_cons, List.map_nil, bval8]
  rw [byte_mod, byte_mod, byte_mod, byte_mod, byte_mod, byte_mod, byte_mod, byte_mod]
  exact digits8 h0 h1

theorem bs8_inj {m n : Int} (h0 : 0 ≤ m) (h1 : m ≤ 18446744073709551615) (g0 : 0 ≤ n) (g1 : n ≤ 18446744073709551615) (h : bs8 m = bs8 n) : m = n := by
  have := bval_bs8 h0 h1
  rw [h, bval_bs8 g0 g1] at this
  exact this.symm

theorem bs8_of (s : ByteArray) (h : s.size = 8) : bs8 (bval s.data.toList) = s := by
  have hl := bval_lt s.data.toList
  have hs : s.data.toList.length = 8 := by rw [Array.length_toList]; exact h
  rw [hs] at hl
  have h8 : (256 : Nat) ^ 8 = 18446744073709551616 := by decide
  apply ByteArray.ext
  apply Array.toList_inj.1
  apply bval_inj
  · rw [hs]; rfl
  · have := bval_bs8 (n := (bval s.data.toList : Int)) (by omega) (by omega)
    omega

/-- The program's way to read a number: shifted, and combined with the next byte. -/
def nstep (x : Int) (c : UInt8) : Int := bits BinOp.or IntKind.u64 (IntKind.u64.wrap (x * 256)) (c.toNat : Int)
def nfold (l : List UInt8) : Int := l.foldl nstep 0
theorem nfold_snoc (l : List UInt8) (c : UInt8) : nfold (l ++ [c]) = nstep (nfold l) c := by
  unfold nfold; rw [List.foldl_append]; rfl
theorem w64_nonneg (x : Int) : 0 ≤ IntKind.u64.wrap x := by rw [IntKind.wrap_u64]; omega
theorem w64_le (x : Int) : IntKind.u64.wrap x ≤ 18446744073709551615 := by rw [IntKind.wrap_u64]; omega
theorem nfold_range (l : List UInt8) : 0 ≤ nfold l ∧ nfold l ≤ 18446744073709551615 := by
  rcases List.eq_nil_or_concat l with rfl | ⟨l', c, rfl⟩
  · decide
  · rw [List.concat_eq_append, nfold_snoc]; exact ⟨w64_nonneg _, w64_le _⟩

theorem bits_or_nat (a b : Nat) (ha : a < 18446744073709551616) (hb : b < 18446744073709551616) : bits .or .u64 (a : Int) (b : Int) = ((a ||| b : Nat) : Int) := by
  have hx : a ||| b < 2 ^ 64 := Nat.or_lt_two_pow (by omega) (by omega)
  have h1 : (BitVec.ofInt 64 (a : Int)).toNat = a := by
    rw [BitVec.ofInt_natCast, BitVec.toNat_ofNat]; exact Nat.mod_eq_of_lt (by omega)
  have h2 : (BitVec.ofInt 64 (b : Int)).toNat = b := by
    rw [BitVec.ofInt_natCast, BitVec.toNat_ofNat]; exact Nat.mod_eq_of_lt (by omega)
  show IntKind.u64.wrap ((BitVec.ofInt 64 (a : Int) ||| BitVec.ofInt 64 (b : Int)).toNat : Int) = _
  rw [BitVec.toNat_or, h1, h2, IntKind.wrap_u64]
  omega

theorem nstep_eq (x : Nat) (c : UInt8) (h : x < 72057594037927936) : nstep x c = ((x * 256 + c.toNat : Nat) : Int) := by
  have hc := c.toNat_lt
  unfold nstep
  have e : IntKind.u64.wrap ((x : Int) * 256) = ((x * 256 : Nat) : Int) := by rw [IntKind.wrap_u64]; omega
  rw [e, bits_or_nat _ _ (by omega) (by omega)]
  have := Nat.two_pow_add_eq_or_of_lt (i := 8) (b := c.toNat) (by omega) x
  rw [Nat.mul_comm x 256]
  have h8 : (2 : Nat) ^ 8 = 256 := by decide
  rw [h8] at this
  rw [this]

theorem nfold_bval : ∀ (k : Nat) (l : List UInt8), l.length = k → k ≤ 8 → nfold l = (bval l : Int)
  | 0, l, h, _ => by
    have : l = [] := List.length_eq_zero_iff.1 h
    subst this; rfl
  | k + 1, l, h, hk => by
    rcases List.eq_nil_or_concat l with rfl | ⟨l', c, rfl⟩
    · simp at h
    · rw [List.concat_eq_append] at h ⊢
      have hl : l'.length = k := by simpa using h
      rw [nfold_snoc, nfold_bval k l' hl (by omega), bval_snoc]
      refine nstep_eq _ _ (Nat.lt_of_lt_of_le (bval_lt l') ?_)
      rw [hl]
      exact Nat.le_trans (Nat.pow_le_pow_right (by decide) (by omega : k ≤ 7)) (by decide)

/-- Turning the highest of 64 bits: half of the range is added, round the range. -/
theorem xor_high (m : Nat) (h : m < 18446744073709551616) : m ^^^ 9223372036854775808 = (m + 9223372036854775808) % 18446744073709551616 := by
  have e63 : (9223372036854775808 : Nat) = 2 ^ 63 := by decide
  have e64 : (18446744073709551616 : Nat) = 2 ^ 64 := by decide
  rw [e63, e64, Nat.add_comm]
  rw [e64] at h
  apply Nat.eq_of_testBit_eq
  intro i
  rw [Nat.testBit_xor, Nat.testBit_mod_two_pow, Nat.testBit_two_pow]
  rcases Nat.lt_trichotomy i 63 with hi | hi | hi
  · rw [Nat.testBit_two_pow_add_gt hi]
    simp [show i < 64 by omega, show ¬ 63 = i by omega]
  · subst hi
    rw [Nat.testBit_two_pow_add_eq]
    simp
  · have hm : m.testBit i = false := Nat.testBit_lt_two_pow (Nat.lt_of_lt_of_le h (Nat.pow_le_pow_right (by decide) (by omega)))
    simp [hm, show ¬ i < 64 by omega, show ¬ 63 = i by omega]

theorem flip_in {m : Int} (h0 : 0 ≤ m) (h1 : m ≤ 18446744073709551615) : bits BinOp.xor IntKind.u64 m 9223372036854775808 = (m + 9223372036854775808) % 18446744073709551616 := by
  obtain ⟨k, rfl⟩ := Int.eq_ofNat_of_zero_le h0
  have := bits_xor_u64_nat k 9223372036854775808 (by omega) (by decide)
  rw [xor_high k (by omega)] at this
  refine this.trans ?_
  omega

/-- The number that an int64 is turned to ahead of its bytes. -/
def up63 (n : Int) : Int := n + 9223372036854775808
theorem flip_up {n : Int} (h0 : -9223372036854775808 ≤ n) (h1 : n ≤ 9223372036854775807) : bits BinOp.xor IntKind.u64 (IntKind.u64.wrap n) 9223372036854775808 = up63 n := by
  rw [flip_in (w64_nonneg _) (w64_le _), IntKind.wrap_u64]; unfold up63; omega
theorem add_up {n : Int} (h0 : -9223372036854775808 ≤ n) (h1 : n ≤ 9223372036854775807) : IntKind.u64.wrap (IntKind.u64.wrap n + 9223372036854775808) = up63 n := by
  rw [IntKind.wrap_u64, IntKind.wrap_u64]; unfold up63; omega
theorem flip_down {m : Int} (h0 : 0 ≤ m) (h1 : m ≤ 18446744073709551615) : wrap64 (bits BinOp.xor IntKind.u64 m 9223372036854775808) = m - 9223372036854775808 := by
  rw [flip_in h0 h1]; unfold wrap64; omega

/-- The first packed text, and what stands behind it, if it is whole. -/
def cut (s : ByteArray) : Option (ByteArray × ByteArray) :=
  if s.size < 4 then none
  else if s.size - 4 < bval (s.data.toList.take 4) then none
  else some (s.extract 4 (4 + bval (s.data.toList.take 4)), s.extract (4 + bval (s.data.toList.take 4)) s.size)
/-- The texts l are packed at the head of s, and r, which begins with no whole packed text, stands behind them. -/
def Ends : ByteArray → List ByteArray → ByteArray → Prop
  | s, [], r => cut s = none ∧ r = s
  | s, t :: l, r => ∃ s', cut s = some (t, s') ∧ Ends s' l r

theorem cut_some {s t r : ByteArray} (h : cut s = some (t, r)) : 4 ≤ s.size ∧ bval (s.data.toList.take 4) ≤ s.size - 4 ∧ t = s.extract 4 (4 + bval (s.data.toList.take 4)) ∧ r = s.extract (4 + bval (s.data.toList.take 4)) s.size := by
  unfold cut at h
  split at h
  · exact absurd h (by simp)
  · split at h
    · exact absurd h (by simp)
    · simp only [Option.some.injEq, Prod.mk.injEq] at h
      exact ⟨by omega, by omega, h.1.symm, h.2.symm⟩
theorem cut_smaller {s t r : ByteArray} (h : cut s = some (t, r)) : t.size + r.size + 4 = s.size := by
  obtain ⟨h4, hb, rfl, rfl⟩ := cut_some h
  rw [ByteArray.size_extract, ByteArray.size_extract]; omega
theorem cut_none {s : ByteArray} (h : cut s = none) : s.size < 4 ∨ (4 ≤ s.size ∧ s.size - 4 < bval (s.data.toList.take 4)) := by
  unfold cut at h
  split at h
  · exact .inl (by assumption)
  · split at h
    · exact .inr ⟨by omega, by assumption⟩
    · exact absurd h (by simp)
theorem ends_exists : ∀ (n : Nat) (s : ByteArray), s.size ≤ n → ∃ l r, Ends s l r := by
  intro n
  induction n with
  | zero =>
    intro s h
    refine ⟨[], s, ?_, rfl⟩
    unfold cut; rw [if_pos (by omega)]
  | succ n ih =>
    intro s h
    cases hc : cut s with
    | none => exact ⟨[], s, hc, rfl⟩
    | some p =>
      obtain ⟨t, r⟩ := p
      have := cut_smaller hc
      obtain ⟨l, e, hl⟩ := ih r (by omega)
      exact ⟨t :: l, e, r, hc, hl⟩
theorem ends_length : ∀ {l : List ByteArray} {s r : ByteArray}, Ends s l r → 4 * l.length + r.size ≤ s.size
  | [], s, r, h => by rw [h.2]; simp
  | t :: l, s, r, h => by
    obtain ⟨s', hc, h'⟩ := h
    have := cut_smaller hc
    have := ends_length h'
    simp only [List.length_cons]; omega
theorem ends_sizes : ∀ {l : List ByteArray} {s r : ByteArray}, Ends s l r → r.size ≤ s.size ∧ ∀ t ∈ l, t.size ≤ s.size
  | [], s, r, h => by rw [h.2]; simp
  | t :: l, s, r, h => by
    obtain ⟨s', hc, h'⟩ := h
    have := cut_smaller hc
    have h2 := ends_sizes h'
    refine ⟨by omega, fun x hx => ?_⟩
    rcases List.mem_cons.1 hx with rfl | hx
    · omega
    · have := h2.2 x hx; omega
end Go.Proofs.Ytingoaklioplaaa
