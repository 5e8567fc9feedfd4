/- The walks of the hash functions: what hash.Sum, hash.Digit, the reference's Sum and Digit, and the law's speaks answer, as the plain functions hsum and dig. Conditions: the numbers are in their kinds' ranges; the text's length fits an int. -/
import Derived.Test.YtingoaklioplaaaProg
import Derived.Test.YtingoaklioplaaaHashLaw
import Derived.Outline
import Derived.Lib.Hide
import Derived.KernelRfl
namespace Go.Proofs.Ytingoaklioplaaa
open Go.RowKit

theorem dig_calls (a l : Int) (w : World) (h0 : 0 ≤ a) (h1 : a ≤ 18446744073709551615) :
    Calls Try.prog 13 #[.int .u64 a, .int .i64 l] w fun e w' => e = .returned (.int .i64 (dig a l)) ∧ w = w' := by
  by_cases hl : l < 0
  · rw [dig_low hl]
    clear h1
    go_enter Try.func13, Try.ntmps13
    go_wp2
    go_ret
    exact ⟨rfl, rfl⟩
  · by_cases hu : 32 ≤ l
    · rw [dig_high hu]
      clear h1
      go_enter Try.func13, Try.ntmps13
      go_wp2
      go_ret
      exact ⟨rfl, rfl⟩
    · have hd := Lib.hid (dig_shift h0 h1 (by omega : 0 ≤ l) (by omega : l ≤ 31))
      clear h1
      go_enter Try.func13, Try.ntmps13
      go_wp2
      go_ret
      exact ⟨ret_int hd.out, rfl⟩

theorem refdig_calls (a l : Int) (w : World) (h0 : 0 ≤ a) (h1 : a ≤ 18446744073709551615) :
    Calls Try.prog 14 #[.int .u64 a, .int .i64 l] w fun e w' => e = .returned (.int .i64 (dig a l)) ∧ w = w' := by
  by_cases hl : l < 0
  · rw [dig_low hl]
    clear h1
    go_enter Try.func14, Try.ntmps14
    go_wp2
    go_ret
    exact ⟨rfl, rfl⟩
  · by_cases hu : 32 ≤ l
    · rw [dig_high hu]
      clear h1
      go_enter Try.func14, Try.ntmps14
      go_wp2
      go_ret
      exact ⟨rfl, rfl⟩
    · rw [dig_in (by omega : 0 ≤ l) (by omega : l ≤ 31)]
      have l0 : 0 ≤ l := by omega
      have l1 : l ≤ 31 := by omega
      clear hl hu
      go_enter Try.func14, Try.ntmps14
      go_wp2
      go_loop [0, 5] (fun h i => ∃ (k : Nat) (x : Int), k ≤ l ∧ i = .int .i64 k ∧ h = .int .u64 x ∧ Hid (x = a / 4 ^ k)) (fun _ i => (l - (intOf i)).toNat)
      case atStart => exact ⟨0, _, l0, rfl, rfl, Lib.hid (by simp)⟩
      case round =>
        obtain ⟨k, x, hk, rfl, rfl, hx⟩ := hrel
        have x0 : 0 ≤ x := by rw [hx.out]; exact div4_nonneg h0 k
        have x1 : x ≤ 18446744073709551615 := by rw [hx.out]; exact Int.le_trans (div4_le h0 k) h1
        clear h1
        go_wp2
        · go_round
          case rel => exact ⟨k + 1, x / 4, by omega, by go_num, rfl, Lib.hid (by rw [hx.out, div4_succ])⟩
          case measure => simp [intOf]; omega
        · have hkl : l = k := by omega
          go_ret
          exact ⟨ret_int (by rw [hx.out, hkl]; simp), rfl⟩

set_option maxHeartbeats 400000 in
theorem sum_calls (seed : Int) (s : ByteArray) (w : World) (hs : s.size ≤ maxLen) :
    Calls Try.prog 11 #[.int .u64 seed, .string s] w fun e w' => e = .returned (.int .u64 (hsum seed s.data.toList)) ∧ w = w' := by
  unfold maxLen at hs
  go_enter Try.func11, Try.ntmps11
  go_wp2
  go_loop [5, 11] (fun h i => ∃ (k : Nat) (x : Int), k ≤ s.size ∧ i = .int .i64 k ∧ h = .int .u64 x ∧ Hid (x = hfold seed (s.data.toList.take k))) (fun _ i => s.size - (intOf i).toNat)
  case atStart => exact ⟨0, _, Nat.zero_le _, rfl, rfl, Lib.hid rfl⟩
  case round =>
    obtain ⟨k, x, hk, rfl, rfl, hx⟩ := hrel
    have xr : 0 ≤ x := by rw [hx.out]; exact (hfold_range _ _).1
    by_cases hlt : k < s.size
    · have hsn := Lib.hid (hfold_snoc seed (s.data.toList.take k) s[k])
      have hts := Lib.hid (take_snoc s k hlt)
      have hb : IntKind.u64.wrap (s[k].toNat : Int) = (s[k].toNat : Int) := by
        rw [IntKind.wrap_u64]; have := s[k].toNat_lt; omega
      go_wp2
      go_round
      case rel => exact ⟨k + 1, _, by omega, by go_num, rfl, Lib.hid (by rw [hts.out, hsn.out, ← hx.out]; rfl)⟩
      case measure => simp [intOf]; omega
    · have hfin : Hid (hsum seed s.data.toList = hend x) := Lib.hid (by
        rw [hx.out, List.take_of_length_le (by simp; omega)]; rfl)
      go_wp2
      go_ret
      exact ⟨ret_int (by rw [hfin.out]; rfl), rfl⟩

set_option maxHeartbeats 400000 in
theorem refsum_calls (seed : Int) (s : ByteArray) (w : World) (hs : s.size ≤ maxLen) :
    Calls Try.prog 12 #[.int .u64 seed, .string s] w fun e w' => e = .returned (.int .u64 (hsum seed s.data.toList)) ∧ w = w' := by
  unfold maxLen at hs
  go_enter Try.func12, Try.ntmps12
  go_wp2
  go_loop [5, 6] (fun h i => ∃ (k : Nat) (x : Int), k ≤ s.size ∧ i = .int .i64 k ∧ h = .int .u64 x ∧ Hid (x = hfold seed (s.data.toList.take k))) (fun _ i => s.size - (intOf i).toNat)
  case atStart => exact ⟨0, _, Nat.zero_le _, rfl, rfl, Lib.hid rfl⟩
  case round =>
    obtain ⟨k, x, hk, rfl, rfl, hx⟩ := hrel
    have xr : 0 ≤ x := by rw [hx.out]; exact (hfold_range _ _).1
    have xl : x ≤ 18446744073709551615 := by rw [hx.out]; exact (hfold_range _ _).2
    by_cases hlt : k < s.size
    · have hsn := Lib.hid (hfold_snoc seed (s.data.toList.take k) s[k])
      have hts := Lib.hid (take_snoc s k hlt)
      have hb : IntKind.u64.wrap (s[k].toNat : Int) = (s[k].toNat : Int) := by
        rw [IntKind.wrap_u64]; have := s[k].toNat_lt; omega
      go_wp2
      go_round
      case rel => exact ⟨k + 1, _, by omega, by go_num, rfl, Lib.hid (by rw [hts.out, hsn.out, ← hx.out]; rfl)⟩
      case measure => simp [intOf]; omega
    · have hfin : Hid (hsum seed s.data.toList = hend x) := Lib.hid (by
        rw [hx.out, List.take_of_length_le (by simp; omega)]; rfl)
      have y0 := wrap_u64_nonneg (bits BinOp.xor IntKind.u64 x (x / 4294967296) * 11400714819323198485)
      have y1 := wrap_u64_le (bits BinOp.xor IntKind.u64 x (x / 4294967296) * 11400714819323198485)
      go_wp2
      go_ret
      exact ⟨ret_int (by rw [hfin.out]; rfl), rfl⟩
end Go.Proofs.Ytingoaklioplaaa
