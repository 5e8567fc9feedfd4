/- The walks of the statements HashSums and HashDigits: both answer true at every input. Conditions: the numbers are in their kinds' ranges; the text's length fits an int. -/
import Derived.Test.YtingoaklioplaaaHashWalks
import Derived.Test.YtingoaklioplaaaRows
import Derived.ProofKit
import Derived.OpenShut
import Derived.ShutString
namespace Go.Proofs.Ytingoaklioplaaa
open Go.ChangeShapes Go.WideShapes Go.ChangeAt Go.RowKit
open Go.ChangeMaps (open_string shut_string)
theorem dig60 : dig 6 0 = 2 := by decide
theorem dig61 : dig 6 1 = 1 := by decide
theorem hsum_ab : (hsum 1 [97] != hsum 1 [98]) = true := by decide +kernel
theorem hsum_e : (hsum 0 [] != 0) = true := by decide +kernel
set_option maxHeartbeats 400000 in
theorem speaks5 (w : World) : Calls Try.prog 10 #[] w fun e w' => e = .returned (.bool true) ∧ w = w' := by
  have hab := hsum_ab
  have he := hsum_e
  go_enter Try.func10, Try.ntmps10
  go_wp2_with fail
  refine (dig_calls 6 0 _ (by decide) (by decide)).mono ?_
  rw [dig60]
  rintro e w' ⟨rfl, rfl⟩
  go_wp2_with fail
  refine (dig_calls 6 1 _ (by decide) (by decide)).mono ?_
  rw [dig61]
  rintro e w' ⟨rfl, rfl⟩
  go_wp2_with fail
  refine (sum_calls 1 _ _ (by decide)).mono ?_
  rintro e w' ⟨rfl, rfl⟩
  generalize hx : hsum 1 _ = x
  have hx := Lib.hid hx
  go_wp2_with fail
  refine (sum_calls 1 _ _ (by decide)).mono ?_
  rintro e w' ⟨rfl, rfl⟩
  generalize hy : hsum 1 _ = y
  have hxy : (x != y) = true := by rw [← hx.out, ← hy]; exact hab
  clear hx hy hab
  go_wp2_with fail
  refine (sum_calls 0 _ _ (by decide)).mono ?_
  rintro e w' ⟨rfl, rfl⟩
  generalize hz : hsum 0 _ = z
  have hz0 : (z != 0) = true := by rw [← hz]; exact he
  clear hz he
  go_wp2
  go_ret
  exact ⟨rfl, rfl⟩

theorem digits_step (a : Int) (k : Nat) : 4 * (a / 4 ^ (k + 1)) + a / 4 ^ k % 4 = a / 4 ^ k := by
  rw [← div4_succ]; omega
theorem dig_nat (a : Int) (k : Nat) (h : k ≤ 31) : dig a k = a / 4 ^ k % 4 := by rw [dig_in (by omega) (by omega)]; rfl

set_option maxHeartbeats 400000 in
theorem digits_walk (a : Int) (h0 : 0 ≤ a) (h1 : a ≤ 18446744073709551615) (w : World) :
    Calls Try.prog 4 #[.int .u64 a] w fun e w' => e = .returned (.bool true) ∧ Grown w w' := by
  have H1 := Lib.hid h1
  clear h1
  go_enter Try.func4, Try.ntmps4
  go_wp2_with (go_at_call 10; refine (speaks5 _).mono ?_; rintro e w' ⟨rfl, rfl⟩)
  go_loop [3, 4] (fun n i => ∃ (k : Nat) (x : Int), k ≤ 32 ∧ i = .int .i64 (k - 1) ∧ n = .int .u64 x ∧ Hid (x = a / 4 ^ k)) (fun _ i => (intOf i + 1).toNat)
  case atStart => exact ⟨32, _, by omega, rfl, rfl, Lib.hid (by have := H1.out; omega)⟩
  case round =>
    obtain ⟨k, x, hk, rfl, rfl, hx⟩ := hrel
    rcases k with _ | k
    · have hx0 : Hid (x = a) := Lib.hid (by rw [hx.out]; simp)
      have hxa : (x == a) = true := by rw [hx0.out]; simp
      go_wp2
      go_ret
      exact ⟨rfl, Grown.refl _⟩
    · have e : (((k + 1 : Nat) : Int) - 1) = (k : Int) := by omega
      rw [e]
      have d0 := dig_nonneg a k
      have d3 := dig_le a k
      have hs : Hid (4 * x + dig a k = a / 4 ^ k) := Lib.hid (by rw [hx.out, dig_nat a k (by omega), digits_step])
      have hb : Hid (a / 4 ^ k ≤ 18446744073709551615) := Lib.hid (Int.le_trans (div4_le h0 k) H1.out)
      have x0 : 0 ≤ x := by rw [hx.out]; exact div4_nonneg h0 _
      have x1 : 4 * x + dig a k ≤ 18446744073709551615 := by rw [hs.out]; exact hb.out
      clear e
      go_wp2_with (go_at_call 13; refine (dig_calls a k _ h0 H1.out).mono ?_; rintro e w' ⟨rfl, rfl⟩)
      go_round
      case rel => exact ⟨k, _, by omega, by go_num, rfl, hs⟩
      case measure => simp [intOf]

theorem size_take (s : ByteArray) (n : Nat) (h : s.size ≤ maxLen) : (s.extract 0 n).size ≤ maxLen := by
  rw [ByteArray.size_extract]; omega

set_option maxHeartbeats 400000 in
theorem sums_walk (a : Int) (s : ByteArray) (l : Int) (h0 : 0 ≤ a) (h1 : a ≤ 18446744073709551615) (hs : s.size ≤ maxLen) (w : World) :
    Calls Try.prog 3 #[.int .u64 a, .string s, .int .i64 l] w fun e w' => e = .returned (.bool true) ∧ Grown w w' := by
  have H1 := Lib.hid h1
  have HS := Lib.hid hs
  clear h1
  unfold maxLen at hs
  go_enter Try.func3, Try.ntmps3
  go_wp2_with (go_at_call 10; refine (speaks5 _).mono ?_; rintro e w' ⟨rfl, rfl⟩)
  all_goals
    refine (sum_calls a _ _ (by first | exact HS.out | (rw [ByteArray.size_extract]; have := HS.out; omega))).mono ?_
    rintro e w' ⟨rfl, rfl⟩
    have hr := hsum_range a
    generalize hX : hsum a _ = X
    have x0 : 0 ≤ X := by rw [← hX]; exact (hr _).1
    have x1 : Hid (X ≤ 18446744073709551615) := Lib.hid (by rw [← hX]; exact (hr _).2)
    have HX := Lib.hid hX
    clear hX hr
    go_wp2_with fail
    refine (refsum_calls a _ _ (by first | exact HS.out | (rw [ByteArray.size_extract]; have := HS.out; omega))).mono ?_
    rintro e w' ⟨rfl, rfl⟩
    rw [HX.out]
    go_wp2_with fail
    refine (dig_calls X l _ x0 x1.out).mono ?_
    rintro e w' ⟨rfl, rfl⟩
    go_wp2_with fail
    refine (refdig_calls X l _ x0 x1.out).mono ?_
    rintro e w' ⟨rfl, rfl⟩
    go_wp2_with fail
    refine (dig_calls a l _ h0 H1.out).mono ?_
    rintro e w' ⟨rfl, rfl⟩
    go_wp2_with fail
    refine (refdig_calls a l _ h0 H1.out).mono ?_
    rintro e w' ⟨rfl, rfl⟩
    go_wp2
    go_ret
    exact ⟨rfl, Grown.refl _⟩
end Go.Proofs.Ytingoaklioplaaa
