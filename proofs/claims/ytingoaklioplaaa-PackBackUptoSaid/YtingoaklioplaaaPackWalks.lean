/- The walks of the small functions of package pack: wide, number, Int, GetInt, first, and the reference's Int. Conditions: numbers within their kinds' ranges; a text's length fits an int. -/
import Derived.Test.YtingoaklioplaaaProg
import Derived.Test.YtingoaklioplaaaPackLaw
import Derived.Test.YtingoaklioplaaaHashLaw
import Derived.Outline
import Derived.WalkSpells
import Derived.Handy
import Derived.Lib.Hide
import Derived.Lib.SmallJoins
import Derived.Laws.IdiomStrings
import Derived.BigQuiet
import Derived.Below
import Derived.Deep.QuietTactic
namespace Go.Proofs.Ytingoaklioplaaa
open Go.RowKit
set_option linter.unusedVariables false

theorem conv1 (W : World) (k : Nat) (a : Int) (hk : k = W.heap.size) :
    (convert 59 9 (.slice (some ⟨k, 0, none⟩) 1 1)).run Try.prog (W.alloc (.cells #[.int .u8 a] 5)) = .ok (.string (strOfNums [a])) (W.alloc (.cells #[.int .u8 a] 5)) := by
  subst hk
  exact run_convert_bytes_arg _ 59 5 Try.underlying59 Try.underlying5 _ 0 1 1 [a] rfl (fun i hi => by
    obtain rfl : i = 0 := by omega
    simp [go_sem]) 9 Try.underlying9
theorem conv4 (W : World) (k : Nat) (a b c d : Int) (hk : k = W.heap.size) :
    (convert 59 9 (.slice (some ⟨k, 0, none⟩) 4 4)).run Try.prog (W.alloc (.cells #[.int .u8 a, .int .u8 b, .int .u8 c, .int .u8 d] 5)) = .ok (.string (strOfNums [a, b, c, d])) (W.alloc (.cells #[.int .u8 a, .int .u8 b, .int .u8 c, .int .u8 d] 5)) := by
  subst hk
  exact run_convert_bytes_arg _ 59 5 Try.underlying59 Try.underlying5 _ 0 4 4 [a, b, c, d] rfl (fun i hi => by
    have : i = 0 ∨ i = 1 ∨ i = 2 ∨ i = 3 := by omega
    rcases this with rfl | rfl | rfl | rfl <;> simp [go_sem]) 9 Try.underlying9
theorem conv8 (W : World) (k : Nat) (a b c d e f g h : Int) (hk : k = W.heap.size) :
    (convert 59 9 (.slice (some ⟨k, 0, none⟩) 8 8)).run Try.prog (W.alloc (.cells #[.int .u8 a, .int .u8 b, .int .u8 c, .int .u8 d, .int .u8 e, .int .u8 f, .int .u8 g, .int .u8 h] 5)) = .ok (.string (strOfNums [a, b, c, d, e, f, g, h])) (W.alloc (.cells #[.int .u8 a, .int .u8 b, .int .u8 c, .int .u8 d, .int .u8 e, .int .u8 f, .int .u8 g, .int .u8 h] 5)) := by
  subst hk
  exact run_convert_bytes_arg _ 59 5 Try.underlying59 Try.underlying5 _ 0 8 8 [a, b, c, d, e, f, g, h] rfl (fun i hi => by
    have : i = 0 ∨ i = 1 ∨ i = 2 ∨ i = 3 ∨ i = 4 ∨ i = 5 ∨ i = 6 ∨ i = 7 := by omega
    rcases this with rfl | rfl | rfl | rfl | rfl | rfl | rfl | rfl <;> simp [go_sem]) 9 Try.underlying9

set_option maxHeartbeats 400000 in
theorem wide8 (n : Int) (w : World) (h0 : 0 ≤ n) :
    Calls Try.prog 32 #[.int .u64 n, .int .i64 8] w fun e w' => e = .returned (.slice (some ⟨w.heap.size, 0, none⟩) 8 8) ∧ w' = w.alloc (.cells #[.int .u8 (n / 72057594037927936 % 256), .int .u8 (n / 281474976710656 % 256), .int .u8 (n / 1099511627776 % 256), .int .u8 (n / 4294967296 % 256), .int .u8 (n / 16777216 % 256), .int .u8 (n / 65536 % 256), .int .u8 (n / 256 % 256), .int .u8 (n % 256)] 5) := by
  have hmk : ∀ w, (Instr.makeSlice 59 (.int .i64 8) (.int .i64 8)).run Try.prog w = .ok (.slice (some ⟨w.heap.size, 0, none⟩) 8 8) (w.alloc (.cells #[.int .u8 0, .int .u8 0, .int .u8 0, .int .u8 0, .int .u8 0, .int .u8 0, .int .u8 0, .int .u8 0] 5)) := fun _ => by kernel_rfl
  go_enter Try.func32, Try.ntmps32
  go_wp2
  refine wp_loop_rounds 9 ?_
  repeat (rw [rounds_succ]; go_wp2)
  go_ret
  exact ⟨rfl, rfl⟩

set_option maxHeartbeats 400000 in
theorem wide4 (n : Int) (w : World) (h0 : 0 ≤ n) :
    Calls Try.prog 32 #[.int .u64 n, .int .i64 4] w fun e w' => e = .returned (.slice (some ⟨w.heap.size, 0, none⟩) 4 4) ∧ w' = w.alloc (.cells #[.int .u8 (n / 16777216 % 256), .int .u8 (n / 65536 % 256), .int .u8 (n / 256 % 256), .int .u8 (n % 256)] 5) := by
  have hmk : ∀ w, (Instr.makeSlice 59 (.int .i64 4) (.int .i64 4)).run Try.prog w = .ok (.slice (some ⟨w.heap.size, 0, none⟩) 4 4) (w.alloc (.cells #[.int .u8 0, .int .u8 0, .int .u8 0, .int .u8 0] 5)) := fun _ => by kernel_rfl
  go_enter Try.func32, Try.ntmps32
  go_wp2
  refine wp_loop_rounds 5 ?_
  repeat (rw [rounds_succ]; go_wp2)
  go_ret
  exact ⟨rfl, rfl⟩

set_option maxHeartbeats 400000 in
theorem int_calls (n : Int) (w : World) (h0 : -9223372036854775808 ≤ n) (h1 : n ≤ 9223372036854775807) :
    Calls Try.prog 16 #[.int .i64 n] w fun e w' => e = .returned (.string (bs8 (up63 n))) ∧ Below w.heap.size w w' := by
  have c8 := conv8
  have hm := Lib.hid (flip_up h0 h1)
  have m0 : 0 ≤ up63 n := by unfold up63; omega
  clear h0 h1
  go_enter Try.func16, Try.ntmps16
  go_wp2_with fail
  rw [hm.out]
  refine (wide8 (up63 n) _ m0).mono ?_
  rintro e w' ⟨rfl, rfl⟩
  go_wp2
  go_ret
  exact ⟨rfl, (Below.refl _ _).alloc (Nat.le_refl _) _⟩

theorem below_al {a w : World} (h : Below a.heap.size a w) (o : Obj) : Below a.heap.size a (w.alloc o) := h.alloc h.size o
theorem ret_str {a b : ByteArray} (h : a = b) : Ending.returned (.string a) = .returned (.string b) := by rw [h]
theorem strOfNums_append (xs ys : List Int) : strOfNums xs ++ strOfNums ys = strOfNums (xs ++ ys) := by
  apply ByteArray.ext
  apply Array.toList_inj.1
  rw [Joins.data_append, strOfNums_data, strOfNums_data, strOfNums_data, List.map_append]
theorem chain8 (m : Int) : strOfNums [m / 256 / 256 / 256 / 256 / 256 / 256 / 256 % 256] ++ (strOfNums [m / 256 / 256 / 256 / 256 / 256 / 256 % 256] ++ (strOfNums [m / 256 / 256 / 256 / 256 / 256 % 256] ++ (strOfNums [m / 256 / 256 / 256 / 256 % 256] ++ (strOfNums [m / 256 / 256 / 256 % 256] ++ (strOfNums [m / 256 / 256 % 256] ++ (strOfNums [m / 256 % 256] ++ (strOfNums [m % 256] ++ { data := #[] }))))))) = bs8 m := by
  have e0 : ({ data := #[] } : ByteArray) = strOfNums [] := rfl
  have e2 : m / 256 / 256 = m / 65536 := by omega
  have e3 : m / 65536 / 256 = m / 16777216 := by omega
  have e4 : m / 16777216 / 256 = m / 4294967296 := by omega
  have e5 : m / 4294967296 / 256 = m / 1099511627776 := by omega
  have e6 : m / 1099511627776 / 256 = m / 281474976710656 := by omega
  have e7 : m / 281474976710656 / 256 = m / 72057594037927936 := by omega
  rw [e0, e2, e3, e4, e5, e6, e7]
  simp only [strOfNums_append]
  rfl

set_option maxHeartbeats 1000000 in
theorem refint_calls (n : Int) (w : World) (h0 : -9223372036854775808 ≤ n) (h1 : n ≤ 9223372036854775807) :
    Calls Try.prog 18 #[.int .i64 n] w fun e w' => e = .returned (.string (bs8 (up63 n))) ∧ Below w.heap.size w w' := by
  have c1 := conv1
  have sz : ∀ x, (strOfNums [x]).size = 1 := fun _ => rfl
  have hm := add_up h0 h1
  have m0 : 0 ≤ up63 n := by unfold up63; omega
  have m1 : up63 n ≤ 18446744073709551615 := by unfold up63; omega
  clear h0 h1
  generalize hM : up63 n = m at *
  clear hM
  go_enter Try.func18, Try.ntmps18
  go_wp2
  clear hm
  refine wp_loop_rounds 9 ?_
  repeat (rw [rounds_succ]; go_wp2)
  go_ret
  refine ⟨ret_str (chain8 m), ?_⟩
  repeat (first | exact Below.refl _ _ | refine below_al ?_ _)

theorem number_calls (s : ByteArray) (w : World) (hs : s.size ≤ maxLen) :
    Calls Try.prog 33 #[.string s] w fun e w' => e = .returned (.int .u64 (nfold s.data.toList)) ∧ w = w' := by
  unfold maxLen at hs
  go_enter Try.func33, Try.ntmps33
  go_wp2
  go_loop [3, 7] (fun h i => ∃ (k : Nat) (x : Int), k ≤ s.size ∧ i = .int .i64 k ∧ h = .int .u64 x ∧ Hid (x = nfold (s.data.toList.take k))) (fun _ i => s.size - (intOf i).toNat)
  case atStart => exact ⟨0, _, Nat.zero_le _, rfl, rfl, Lib.hid rfl⟩
  case round =>
    obtain ⟨k, x, hk, rfl, rfl, hx⟩ := hrel
    by_cases hlt : k < s.size
    · have hb : IntKind.u64.wrap (s[k].toNat : Int) = (s[k].toNat : Int) := by
        rw [IntKind.wrap_u64]; have := s[k].toNat_lt; omega
      have hsn := Lib.hid (nfold_snoc (s.data.toList.take k) s[k])
      have hts := Lib.hid (take_snoc s k hlt)
      go_wp2
      go_round
      case rel => exact ⟨k + 1, _, by omega, by go_num, rfl, Lib.hid (by rw [hts.out, hsn.out, ← hx.out]; rfl)⟩
      case measure => simp [intOf]; omega
    · have hfin : Hid (nfold s.data.toList = x) := Lib.hid (by
        rw [hx.out, List.take_of_length_le (by simp; omega)])
      go_wp2
      go_ret
      exact ⟨ret_int hfin.out.symm, rfl⟩

theorem getint_no (s : ByteArray) (w : World) (hs : s.size ≤ maxLen) (h8 : s.size ≠ 8) :
    Calls Try.prog 17 #[.string s] w fun e w' => e = .returned (.tuple #[.int .i64 0, .bool false]) ∧ w = w' := by
  have hb : ((s.size : Int) != 8) = true := by rw [bne_iff_ne]; omega
  clear h8 hs
  go_enter Try.func17, Try.ntmps17
  go_wp2
  go_ret2
  exact ⟨rfl, rfl⟩
theorem getint_yes (s : ByteArray) (w : World) (h8 : s.size = 8) :
    Calls Try.prog 17 #[.string s] w fun e w' => e = .returned (.tuple #[.int .i64 ((bval s.data.toList : Int) - 9223372036854775808), .bool true]) ∧ w = w' := by
  have hb : ((s.size : Int) != 8) = false := by rw [bne_eq_false_iff_eq]; omega
  have hs : s.size ≤ maxLen := by unfold maxLen; omega
  have hr := nfold_range s.data.toList
  have hv := nfold_bval 8 s.data.toList (by rw [Array.length_toList]; exact h8) (Nat.le_refl _)
  have hd := Lib.hid (flip_down hr.1 hr.2)
  rw [← hv]
  have Hs := Lib.hid hs
  clear h8 hs hr hv
  go_enter Try.func17, Try.ntmps17
  go_wp2_with (go_at_call 33; refine (number_calls s _ Hs.out).mono ?_; rintro e w' ⟨rfl, rfl⟩)
  go_ret2
  exact ⟨by rw [← hd.out]; rfl, rfl⟩

theorem first_short (s : ByteArray) (w : World) (h : s.size < 4) :
    Calls Try.prog 34 #[.string s] w fun e w' => e = .returned (.tuple #[.string ⟨#[]⟩, .string s, .bool false]) ∧ ∃ n, w' = w.drewN n := by
  go_enter Try.func34, Try.ntmps34
  go_wp2
  go_ret3
  exact ⟨rfl, 0, rfl⟩
theorem first_long (s : ByteArray) (w : World) (hs : s.size ≤ maxLen) (h4 : 4 ≤ s.size) (h : s.size - 4 < bval (s.data.toList.take 4)) :
    Calls Try.prog 34 #[.string s] w fun e w' => e = .returned (.tuple #[.string ⟨#[]⟩, .string s, .bool false]) ∧ ∃ n, w' = w.drewN n := by
  unfold maxLen at hs
  have hx : (s.extract 0 4).data.toList = s.data.toList.take 4 := by rw [Lib.extract_data]; simp
  have hf := nfold_bval 4 (s.data.toList.take 4) (by rw [List.length_take, Array.length_toList]; exact Nat.min_eq_left h4) (by omega)
  generalize bval (s.data.toList.take 4) = b at h hf
  have Hf := Lib.hid hf
  have Hx := Lib.hid hx
  have hb : (s.size : Int) - 4 < b := by omega
  clear hx hf h
  go_enter Try.func34, Try.ntmps34
  go_wp2_with fail
  refine (number_calls _ _ (by rw [ByteArray.size_extract]; unfold maxLen; omega)).mono ?_
  rw [Hx.out, Hf.out]
  rintro e w' ⟨rfl, rfl⟩
  go_wp2
  go_ret3
  exact ⟨rfl, 0, rfl⟩
theorem first_some (s t r : ByteArray) (w : World) (hs : s.size ≤ maxLen) (h : cut s = some (t, r)) :
    Calls Try.prog 34 #[.string s] w fun e w' => e = .returned (.tuple #[.string t, .string r, .bool true]) ∧ ∃ n, w' = w.drewN n := by
  unfold maxLen at hs
  obtain ⟨h4, hb, rfl, rfl⟩ := cut_some h
  have hx : (s.extract 0 4).data.toList = s.data.toList.take 4 := by rw [Lib.extract_data]; simp
  have hf := nfold_bval 4 (s.data.toList.take 4) (by rw [List.length_take, Array.length_toList]; exact Nat.min_eq_left h4) (by omega)
  generalize bval (s.data.toList.take 4) = b at hb hf
  have Hf := Lib.hid hf
  have Hx := Lib.hid hx
  clear hx hf h
  go_enter Try.func34, Try.ntmps34
  go_wp2_with fail
  refine (number_calls _ _ (by rw [ByteArray.size_extract]; unfold maxLen; omega)).mono ?_
  rw [Hx.out, Hf.out]
  rintro e w' ⟨rfl, rfl⟩
  go_wp2
  go_quiet (fail)
  go_wp2
  go_ret3
  exact ⟨rfl, _, rfl⟩
theorem first_none (s : ByteArray) (w : World) (hs : s.size ≤ maxLen) (h : cut s = none) :
    Calls Try.prog 34 #[.string s] w fun e w' => e = .returned (.tuple #[.string ⟨#[]⟩, .string s, .bool false]) ∧ ∃ n, w' = w.drewN n := by
  rcases cut_none h with h | ⟨h4, h⟩
  · exact first_short s w h
  · exact first_long s w hs h4 h
end Go.Proofs.Ytingoaklioplaaa
