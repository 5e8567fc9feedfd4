/- The walk of the statement PackInts: it answers true. Conditions: the numbers fit an int64; the text's length fits an int. -/
import Derived.Test.YtingoaklioplaaaPackSpeaks
namespace Go.Proofs.Ytingoaklioplaaa
open Go.RowKit
set_option linter.unusedVariables false

theorem bs8_less {m n : Int} (h0 : 0 ≤ m) (h1 : m ≤ 18446744073709551615) (g0 : 0 ≤ n) (g1 : n ≤ 18446744073709551615) : Op.bytesLess (bs8 m).toList (bs8 n).toList = decide (m < n) := by
  rw [ByteArray.toList_eq, ByteArray.toList_eq, bytesLess_bval (by rfl), decide_eq_decide]
  have e1 := bval_bs8 h0 h1
  have e2 := bval_bs8 g0 g1
  omega
theorem bs8_eq {m n : Int} (h0 : 0 ≤ m) (h1 : m ≤ 18446744073709551615) (g0 : 0 ≤ n) (g1 : n ≤ 18446744073709551615) : ((bs8 m).toList == (bs8 n).toList) = (m == n) := by
  rw [Bool.eq_iff_iff, beq_iff_eq, beq_iff_eq, ByteArray.toList_eq, ByteArray.toList_eq]
  constructor
  · intro h
    exact bs8_inj h0 h1 g0 g1 (ByteArray.ext (Array.toList_inj.1 h))
  · rintro rfl; rfl
theorem up63_range {n : Int} (h0 : -9223372036854775808 ≤ n) (h1 : n ≤ 9223372036854775807) : 0 ≤ up63 n ∧ up63 n ≤ 18446744073709551615 := by unfold up63; omega
theorem ints_facts {a b : Int} (a0 : -9223372036854775808 ≤ a) (a1 : a ≤ 9223372036854775807) (b0 : -9223372036854775808 ≤ b) (b1 : b ≤ 9223372036854775807) :
    Op.bytesLess (bs8 (up63 a)).toList (bs8 (up63 b)).toList = decide (a < b) ∧ ((bs8 (up63 a)).toList == (bs8 (up63 b)).toList) = (a == b) ∧ (bval (bs8 (up63 a)).data.toList : Int) - 9223372036854775808 = a := by
  have ha := up63_range a0 a1
  have hb := up63_range b0 b1
  refine ⟨?_, ?_, ?_⟩
  · rw [bs8_less ha.1 ha.2 hb.1 hb.2, decide_eq_decide]; unfold up63; omega
  · rw [bs8_eq ha.1 ha.2 hb.1 hb.2, Bool.eq_iff_iff, beq_iff_eq, beq_iff_eq]; unfold up63; omega
  · rw [bval_bs8 ha.1 ha.2]; unfold up63; omega

theorem below_on {a b c : World} (h : Below a.heap.size a b) (k : Below b.heap.size b c) : Below a.heap.size a c := h.trans (k.mono h.size)
theorem below4 {a b c d e f : World} (h1 : Below a.heap.size a b) (h2 : Below b.heap.size b c) (h3 : Below c.heap.size c d) (h4 : Below d.heap.size d e) (h5 : Below e.heap.size e f) : Below a.heap.size a f :=
  below_on (below_on (below_on (below_on h1 h2) h3) h4) h5
set_option maxHeartbeats 1000000 in
theorem ints_walk (a b : Int) (s : ByteArray) (a0 : -9223372036854775808 ≤ a) (a1 : a ≤ 9223372036854775807) (b0 : -9223372036854775808 ≤ b) (b1 : b ≤ 9223372036854775807) (hs : s.size ≤ maxLen) (w : World) :
    Calls Try.prog 5 #[.int .i64 a, .int .i64 b, .string s] w fun e w' => e = .returned (.bool true) ∧ Below w.heap.size w w' := by
  have A0 := Lib.hid a0
  have A1 := Lib.hid a1
  have B0 := Lib.hid b0
  have B1 := Lib.hid b1
  have HS := Lib.hid hs
  have HF := Lib.hid (ints_facts a0 a1 b0 b1)
  clear a0 a1 b0 b1
  go_enter Try.func5, Try.ntmps5
  go_wp2_with fail
  refine (speaks4 _).mono ?_
  rintro e w1 ⟨rfl, hB1⟩
  have HB1 := Lib.hid hB1
  clear hB1
  go_wp2_with fail
  refine (int_calls a _ A0.out A1.out).mono ?_
  rintro e w2 ⟨rfl, hB2⟩
  have HB2 := Lib.hid hB2
  clear hB2
  generalize hX : bs8 (up63 a) = X at *
  have HX := Lib.hid hX
  clear hX
  go_wp2_with fail
  refine (int_calls b _ B0.out B1.out).mono ?_
  rintro e w3 ⟨rfl, hB3⟩
  have HB3 := Lib.hid hB3
  clear hB3
  generalize hY : bs8 (up63 b) = Y at *
  clear hY
  go_wp2_with fail
  refine (getint_yes X _ (by rw [← HX.out]; rfl)).mono ?_
  rw [HF.out.2.2]
  rintro e w4 ⟨rfl, rfl⟩
  have hlt := HF.out.1
  have heq := HF.out.2.1
  by_cases h8 : s.size = 8
  · have hb : ((s.size : Int) == 8) = true := beq_iff_eq.2 (by omega)
    have H8 := Lib.hid h8
    have hm0 : Hid (-9223372036854775808 ≤ (bval s.data.toList : Int) - 9223372036854775808) := Lib.hid (by omega)
    have hm1 : Hid ((bval s.data.toList : Int) - 9223372036854775808 ≤ 9223372036854775807) := Lib.hid (by
      have := bval_lt s.data.toList
      rw [Array.length_toList, show s.data.size = 8 from h8] at this
      have h8 : (256 : Nat) ^ 8 = 18446744073709551616 := by decide
      omega)
    have hback : Hid (bs8 (up63 ((bval s.data.toList : Int) - 9223372036854775808)) = s) := Lib.hid (by
      rw [show up63 ((bval s.data.toList : Int) - 9223372036854775808) = (bval s.data.toList : Int) by unfold up63; omega]
      exact bs8_of s h8)
    clear h8 hs
    go_wp2_with fail
    refine (getint_yes s _ H8.out).mono ?_
    generalize (bval s.data.toList : Int) - 9223372036854775808 = m at *
    rintro e w4 ⟨rfl, rfl⟩
    go_wp2_with fail
    refine (refint_calls a _ A0.out A1.out).mono ?_
    rw [HX.out]
    rintro e w5 ⟨rfl, hB5⟩
    have HB5 := Lib.hid hB5
    clear hB5
    go_wp2_with fail
    refine (int_calls m _ hm0.out hm1.out).mono ?_
    rw [hback.out]
    rintro e w6 ⟨rfl, hB6⟩
    have HB6 := Lib.hid hB6
    clear hB6
    go_wp2
    go_ret
    exact ⟨rfl, below4 HB1.out HB2.out HB3.out HB5.out HB6.out⟩
  · have hb : ((s.size : Int) == 8) = false := beq_eq_false_iff_ne.2 (by omega)
    have H8 := Lib.hid h8
    clear h8 hs
    go_wp2_with fail
    refine (getint_no s _ HS.out H8.out).mono ?_
    rintro e w4 ⟨rfl, rfl⟩
    go_wp2_with fail
    refine (refint_calls a _ A0.out A1.out).mono ?_
    rw [HX.out]
    rintro e w5 ⟨rfl, hB5⟩
    have HB5 := Lib.hid hB5
    clear hB5
    go_wp2
    go_ret
    exact ⟨rfl, below4 HB1.out HB2.out HB3.out HB5.out (Below.refl _ _)⟩
end Go.Proofs.Ytingoaklioplaaa
