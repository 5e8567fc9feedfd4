/- The walk of the reference's Pack: the packed text of a list of texts. Condition: the packed text is of at most 1073741824 bytes. -/
import Derived.Test.YtingoaklioplaaaPackRead
import Derived.BigRegion
import Derived.RegionTactic
namespace Go.Proofs.Ytingoaklioplaaa
open Go.RowKit
set_option linter.unusedVariables false

theorem pack_room (ss : List ByteArray) (k : Nat) (h : k < ss.length) : (packB (ss.take k)).length + 4 + ss[k].size ≤ (packB ss).length := by
  have htk : ss.take (k + 1) = ss.take k ++ [ss[k]] := List.take_succ_eq_append_getElem h
  have h1 := congrArg List.length (packB_snoc (ss.take k) ss[k])
  rw [← htk, List.length_append, List.length_append] at h1
  have h3 : (hd4 ss[k].size).length = 4 := rfl
  have h4 : ss[k].data.toList.length = ss[k].size := Array.length_toList
  have h5 := congrArg List.length (packB_append (ss.take (k + 1)) (ss.drop (k + 1)))
  rw [List.take_append_drop, List.length_append] at h5
  omega
/-- The cells of a slice of texts, from whatever place on. -/
def RowAt (a : Option Addr) (l : List ByteArray) (w : World) : Prop :=
  ∀ i (hi : i < l.length), ∃ g off, a = some ⟨g, off, none⟩ ∧ g < w.heap.size ∧ w.cell? ⟨g, off + i, none⟩ = some (.string l[i])
theorem RowAt.below {a : Option Addr} {l : List ByteArray} {w w' : World} (h : RowAt a l w) (hB : Below w.heap.size w w') : RowAt a l w' := fun i hi => by
  obtain ⟨g, off, ha, hg, hc⟩ := h i hi
  exact ⟨g, off, ha, Nat.lt_of_lt_of_le hg hB.size, (hB.cell (p := ⟨g, off + i, none⟩) hg).trans hc⟩
theorem hd4_str (n : Nat) : (strOfNums [(n : Int) / 16777216 % 256, (n : Int) / 65536 % 256, (n : Int) / 256 % 256, (n : Int) % 256]).data.toList = hd4 n := rfl
theorem conv4d (W : World) (k : Nat) (a b c d : Int) (hk : k = W.heap.size) :
    (convert 59 9 (.slice (some ⟨k, 0, none⟩) 4 4)).run Try.prog (W.alloc (.cells #[.int .u8 a, .int .u8 b, .int .u8 c, .int .u8 d] 5)).drew = .ok (.string (strOfNums [a, b, c, d])) (W.alloc (.cells #[.int .u8 a, .int .u8 b, .int .u8 c, .int .u8 d] 5)).drew := by
  subst hk
  exact run_convert_bytes_arg _ 59 5 Try.underlying59 Try.underlying5 _ 0 4 4 [a, b, c, d] rfl (fun i hi => by
    have : i = 0 ∨ i = 1 ∨ i = 2 ∨ i = 3 := by omega
    rcases this with rfl | rfl | rfl | rfl <;> simp [go_sem]) 9 Try.underlying9
set_option maxHeartbeats 1000000 in
theorem refpack_calls (ss : List ByteArray) (a : Option Addr) (cap : Nat) (w : World) (hlen : ss.length ≤ 1000000) (hsz : (packB ss).length ≤ 1073741824) (hr : RowAt a ss w) :
    Calls Try.prog 21 #[.slice a ss.length cap] w fun e w' => e = .returned (.string (packed ss)) ∧ Below w.heap.size w w' := by
  have Hsz := Lib.hid hsz
  have HR := Lib.hid hr
  have c4 := conv4d
  have sz : ∀ x y z u, (strOfNums [x, y, z, u]).size = 4 := fun _ _ _ _ => rfl
  clear hsz hr
  go_enter Try.func21, Try.ntmps21
  go_wp2
  go_loopw [3, 4] (fun v i wr => ∃ (k : Nat) (out : ByteArray), k ≤ ss.length ∧ i = .int .i64 k ∧ v = .string out ∧ Hid (out.data.toList = packB (ss.take k)) ∧ Below w.heap.size w wr) (fun _ i _ => ss.length - (intOf i).toNat)
  case atStart => exact ⟨0, _, Nat.zero_le _, rfl, rfl, Lib.hid rfl, Below.refl _ _⟩
  case round =>
    obtain ⟨k, out, hk, rfl, rfl, ho, hB⟩ := hrel
    by_cases hlt : k < ss.length
    · obtain ⟨g, off, rfl, hg, hc⟩ := HR.out k hlt
      have hc' : wr.cell? ⟨g, off + k, none⟩ = some (.string ss[k]) := (hB.cell (p := ⟨g, off + k, none⟩) hg).trans hc
      have Hs := Lib.hid hB.size
      have hgw : g < wr.heap.size := Nat.lt_of_lt_of_le hg hB.size
      have htk : ss.take (k + 1) = ss.take k ++ [ss[k]] := List.take_succ_eq_append_getElem hlt
      have Htk := Lib.hid (packB_snoc (ss.take k) ss[k])
      rw [← htk] at Htk
      have hroom := pack_room ss k hlt
      have hos : out.size ≤ 1073741824 - 4 - ss[k].size := by
        have h1 := congrArg List.length ho.out
        rw [Array.length_toList] at h1
        have h2 := Hsz.out
        have h3 : out.size = out.data.size := rfl
        omega
      have hs0 : ss[k].size ≤ 1073741820 := by have h2 := Hsz.out; omega
      clear hroom
      generalize ss[k] = s at *
      clear hc htk
      go_wp2
      go_region
      all_goals
        go_wp2
        refine ⟨⟨k + 1, _, by omega, by go_num, rfl, Lib.hid ?_, ?_⟩, by simp [intOf]; omega⟩
        · rw [Joins.data_append, Joins.data_append, hd4_str, Htk.out, ho.out, List.append_assoc]
        · exact (hB.alloc Hs.out _).drew
    · have hke : k = ss.length := by omega
      have hfin : Hid (out = packed ss) := Lib.hid (by
        apply ByteArray.ext
        apply Array.toList_inj.1
        rw [ho.out, hke, List.take_length]
        rfl)
      clear hke
      go_wp2
      go_ret
      exact ⟨ret_str hfin.out, hB⟩
end Go.Proofs.Ytingoaklioplaaa
