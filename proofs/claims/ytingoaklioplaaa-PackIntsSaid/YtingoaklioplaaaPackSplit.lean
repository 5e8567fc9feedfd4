/- The walks of pack.Split and the reference's Split: what they answer of a text, by the plain word Ends. Condition: the text is of at most 4194304 bytes. -/
import Derived.Test.YtingoaklioplaaaPackWalks
import Derived.OwnWalk
import Derived.Below
import Derived.Maps.AppendAt
namespace Go.Proofs.Ytingoaklioplaaa
open Go.RowKit
set_option linter.unusedVariables false
theorem Try.info9 : (Try.prog.info? 9).map (fun i => (i.zero, i.size, i.bytes)) = some (some (.string ⟨#[]⟩), 1, 16) := by kernel_rfl
theorem toList_empty {s : ByteArray} (h : s.size = 0) : s.toList.isEmpty = true := by
  rw [ByteArray.toList_eq, List.isEmpty_iff, ← List.length_eq_zero_iff, Array.length_toList]; exact h
theorem toList_some {s : ByteArray} (h : s.size ≠ 0) : s.toList.isEmpty = false := by
  rw [ByteArray.toList_eq, List.isEmpty_eq_false_iff]; intro e; apply h
  have := congrArg List.length e
  rw [Array.length_toList] at this
  exact this
theorem ownsRow_drewN {w : World} {base : Nat} {e : TypeId} {size : Nat} {v : Value} {n : Nat} {xs : List Value} (h : w.ownsRow base e size v n xs) (k : Nat) : (w.drewN k).ownsRow base e size v n xs := h
theorem below_drewN' {B : Nat} {a w : World} (h : Below B a w) (k : Nat) : Below B a (w.drewN k) := ⟨h.os, h.tape, h.output, h.size, h.block⟩
/-- What Split answers: all texts, or that they are not whole. -/
def SplitSays (B : Nat) (l : List ByteArray) (r : ByteArray) (w : World) (e : Ending) (w' : World) : Prop :=
  Below B w w' ∧ ((r.size = 0 ∧ ∃ v, e = .returned (.tuple #[v, .int .i64 0]) ∧ w'.ownsRow B 9 1 v l.length (l.map .string)) ∨ (r.size ≠ 0 ∧ e = .returned (.tuple #[.slice none 0 0, .int .i64 2])))
set_option maxHeartbeats 400000 in
theorem split_calls (s r : ByteArray) (l : List ByteArray) (w : World) (hs : s.size ≤ 4194304) (he : Ends s l r) :
    Calls Try.prog 20 #[.string s] w (SplitSays w.heap.size l r w) := by
  have He := Lib.hid he
  have Hl := Lib.hid (ends_length he)
  clear he
  obtain ⟨i0, hi, hz0, hz1, hz2⟩ := info_parts Try.info9
  go_enter Try.func20, Try.ntmps20
  go_wp2
  go_loopw [0, 4] (fun c v wr => ∃ (done todo : List ByteArray) (cur : ByteArray), c = .string cur ∧ Hid (l = done ++ todo) ∧ Hid (Ends cur todo r) ∧ cur.size ≤ 4194304 ∧ wr.ownsRow w.heap.size 9 1 v done.length (done.map .string) ∧ Below w.heap.size w wr) (fun c _ _ => match c with | .string s => s.size | _ => 0)
  case atStart => exact ⟨[], l, s, rfl, Lib.hid rfl, He, hs, World.ownsRow_nil _ _ _ _, Below.refl _ _⟩
  case round =>
    obtain ⟨done, todo, cur, rfl, hl, hE, hc, hown, hB⟩ := hrel
    rcases todo with _ | ⟨t, todo⟩
    · obtain ⟨hn, hr⟩ := hE.out
      have Hr := Lib.hid hr
      by_cases h0 : cur.size = 0
      · have hem := toList_empty h0
        have H0 := Lib.hid h0
        clear hn hr h0
        go_wp2
        go_ret2
        refine ⟨hB, .inl ⟨by rw [Hr.out]; exact H0.out, _, rfl, ?_⟩⟩
        rw [hl.out, List.append_nil]; exact hown
      · have hem := toList_some h0
        have H0 := Lib.hid h0
        have Hn := Lib.hid hn
        clear hn hr
        go_wp2_with fail
        refine (first_none cur _ (by unfold maxLen; omega) Hn.out).mono ?_
        rintro e w' ⟨rfl, n, rfl⟩
        go_wp2
        go_ret2
        exact ⟨below_drewN' hB n, .inr ⟨by rw [Hr.out]; exact H0.out, rfl⟩⟩
    · obtain ⟨s', hcut, hE'⟩ := hE.out
      have hsm := cut_smaller hcut
      have h0 : cur.size ≠ 0 := by omega
      have hem := toList_some h0
      have HE' := Lib.hid hE'
      have Hcut := Lib.hid hcut
      have hdl : 4 * (done.length + 1) ≤ 4194304 := by
        have h1 := Hl.out
        have h2 := congrArg List.length hl.out
        rw [List.length_append, List.length_cons] at h2
        omega
      clear hE' hcut h0 hE
      go_wp2_with fail
      refine (first_some cur t s' _ (by unfold maxLen; omega) Hcut.out).mono ?_
      rintro e w' ⟨rfl, n, rfl⟩
      have hsz : w.heap.size ≤ wr.heap.size := hB.size
      have Hsz := Lib.hid hsz
      clear hsz
      go_wp2_with (at_builtin; refine wpList_append_own _ rfl _ _ 32 rfl w.heap.size 9 i0 (.string ⟨#[]⟩) 1 16 Try.underlying32 hi hz0 hz1 hz2 rfl (by decide) _ _ _ rfl ((ownsRow_drewN hown n).alloc _) ⟨wr.heap.size, 0, none⟩ 1 1 [.string t] rfl rfl (cell_one_new _ _ _) (by simp [Value.oneCell']) (by unfold maxLen; omega) (by omega) (by have := Hsz.out; simp; omega) ?_; intro v' w1 hown1 hgrow1 _)
      refine ⟨⟨done ++ [t], todo, s', rfl, Lib.hid (by rw [hl.out]; simp), HE', by omega, ?_, ?_⟩, ?_⟩
      · rw [List.length_append, List.map_append]; exact hown1
      · exact ((below_drewN' hB n).alloc Hsz.out _).grown hgrow1 (by have := Hsz.out; simp; omega) (fun k hk => (hown.lt k hk).1)
      · show s'.size < cur.size
        omega

theorem index_byte (s : ByteArray) (i : Nat) (k : Int) (hk : k = i) (h : i < s.size) (w : World) : (Instr.index 9 (.string s) (.int .i64 k)).run Try.prog w = .ok (.int .u8 (s[i].toNat : Int)) w := by
  subst hk
  rw [run_index_string w 9 s .i64 i Try.underlying9, dif_pos ⟨by omega, by omega⟩]; rfl
/-- The four bytes at the head of a text. -/
theorem four_bytes (s : ByteArray) (h : 4 ≤ s.size) : ∃ a b c d : Int,
    (∀ w, (Instr.index 9 (.string s) (.int .i64 0)).run Try.prog w = .ok (.int .u8 a) w) ∧
    (∀ w, (Instr.index 9 (.string s) (.int .i64 1)).run Try.prog w = .ok (.int .u8 b) w) ∧
    (∀ w, (Instr.index 9 (.string s) (.int .i64 2)).run Try.prog w = .ok (.int .u8 c) w) ∧
    (∀ w, (Instr.index 9 (.string s) (.int .i64 3)).run Try.prog w = .ok (.int .u8 d) w) ∧
    0 ≤ a ∧ 0 ≤ b ∧ 0 ≤ c ∧ 0 ≤ d ∧ a ≤ 255 ∧ b ≤ 255 ∧ c ≤ 255 ∧ d ≤ 255 ∧ a * 16777216 + b * 65536 + c * 256 + d = (bval (s.data.toList.take 4) : Int) := by
  refine ⟨(s[0].toNat : Int), (s[1].toNat : Int), (s[2].toNat : Int), (s[3].toNat : Int), index_byte s 0 0 rfl (by omega), index_byte s 1 1 rfl (by omega), index_byte s 2 2 rfl (by omega), index_byte s 3 3 rfl (by omega), by omega, by omega, by omega, by omega, ?_, ?_, ?_, ?_, ?_⟩
  · have := s[0].toNat_lt; omega
  · have := s[1].toNat_lt; omega
  · have := s[2].toNat_lt; omega
  · have := s[3].toNat_lt; omega
  · rw [take_snoc s 3 (by omega), take_snoc s 2 (by omega), take_snoc s 1 (by omega), take_snoc s 0 (by omega), List.take_zero]
    simp only [List.nil_append, List.cons_append]
    rw [bval4]
    omega
/-- What the reference's Split answers: the whole texts, and whether that is all. -/
def RefSplitSays (B : Nat) (l : List ByteArray) (r : ByteArray) (w : World) (e : Ending) (w' : World) : Prop :=
  Below B w w' ∧ ∃ v, e = .returned (.tuple #[v, .bool (decide (r.size = 0))]) ∧ w'.ownsRow B 9 1 v l.length (l.map .string)
set_option maxHeartbeats 400000 in
theorem refsplit_calls (s r : ByteArray) (l : List ByteArray) (w : World) (hs : s.size ≤ 4194304) (he : Ends s l r) :
    Calls Try.prog 23 #[.string s] w (RefSplitSays w.heap.size l r w) := by
  have He := Lib.hid he
  have Hl := Lib.hid (ends_length he)
  clear he
  obtain ⟨i0, hi, hz0, hz1, hz2⟩ := info_parts Try.info9
  go_enter Try.func23, Try.ntmps23
  go_wp2
  go_loopw [0, 4] (fun c v wr => ∃ (done todo : List ByteArray) (cur : ByteArray), c = .string cur ∧ Hid (l = done ++ todo) ∧ Hid (Ends cur todo r) ∧ cur.size ≤ 4194304 ∧ wr.ownsRow w.heap.size 9 1 v done.length (done.map .string) ∧ Below w.heap.size w wr) (fun c _ _ => match c with | .string s => s.size | _ => 0)
  case atStart => exact ⟨[], l, s, rfl, Lib.hid rfl, He, hs, World.ownsRow_nil _ _ _ _, Below.refl _ _⟩
  case round =>
    obtain ⟨done, todo, cur, rfl, hl, hE, hc, hown, hB⟩ := hrel
    have hsz : w.heap.size ≤ wr.heap.size := hB.size
    have Hsz := Lib.hid hsz
    clear hsz
    by_cases h4 : cur.size < 4
    · have hnil : todo = [] ∧ r = cur := by
        rcases todo with _ | ⟨t, todo⟩
        · exact ⟨rfl, hE.out.2⟩
        · obtain ⟨s', hcut, _⟩ := hE.out
          have := (cut_some hcut).1
          omega
      obtain ⟨rfl, hr⟩ := hnil
      have Hr := Lib.hid hr
      clear hr
      by_cases h0 : cur.size = 0
      · have hem := toList_empty h0
        have H0 : Hid (decide (r.size = 0) = true) := Lib.hid (by rw [Hr.out]; exact decide_eq_true h0)
        clear h0
        go_wp2
        go_ret2
        refine ⟨hB, _, by rw [H0.out]; rfl, ?_⟩
        rw [hl.out, List.append_nil]; exact hown
      · have hem := toList_some h0
        have H0 : Hid (decide (r.size = 0) = false) := Lib.hid (by rw [Hr.out]; exact decide_eq_false h0)
        clear h0
        go_wp2
        go_ret2
        refine ⟨hB, _, by rw [H0.out]; rfl, ?_⟩
        rw [hl.out, List.append_nil]; exact hown
    · obtain ⟨b0, b1, b2, b3, i0', i1', i2', i3', l0, l1, l2, l3, u0, u1, u2', u3', hv⟩ := four_bytes cur (by omega)
      have HV := Lib.hid hv
      clear hv
      have h4' : 4 ≤ cur.size := by omega
      rcases todo with _ | ⟨t, todo⟩
      · obtain ⟨hn, hr⟩ := hE.out
        have hb : cur.size - 4 < bval (cur.data.toList.take 4) := by
          rcases cut_none hn with h | h
          · omega
          · exact h.2
        have H0 : Hid (decide (r.size = 0) = false) := Lib.hid (by rw [hr]; exact decide_eq_false (by omega))
        clear hn hr hE
        generalize bval (cur.data.toList.take 4) = b at hb HV
        have hb' : (cur.size : Int) - 4 < b := by omega
        go_wp2_with fail
        go_quiet (fail)
        rw [HV.out]
        clear HV
        go_wp2
        go_ret2
        refine ⟨below_drewN' hB _, _, by rw [H0.out]; rfl, ?_⟩
        rw [hl.out, List.append_nil]; exact hown
      · obtain ⟨s', hcut, hE'⟩ := hE.out
        have hsm := cut_smaller hcut
        obtain ⟨_, hb, ht, hs'⟩ := cut_some hcut
        have HE' := Lib.hid hE'
        have hdl : 4 * (done.length + 1) ≤ 4194304 := by
          have h1 := Hl.out
          have h2 := congrArg List.length hl.out
          rw [List.length_append, List.length_cons] at h2
          omega
        clear hE' hcut hE
        generalize bval (cur.data.toList.take 4) = b at hb HV ht hs'
        have HT := Lib.hid ht
        have HS' := Lib.hid hs'
        have hb' : ¬ (cur.size : Int) - 4 < b := by omega
        clear ht hs'
        go_wp2_with fail
        go_quiet (fail)
        rw [HV.out]
        clear HV
        go_wp2_with (at_builtin; refine wpList_append_own _ rfl _ _ 32 rfl w.heap.size 9 i0 (.string ⟨#[]⟩) 1 16 Try.underlying32 hi hz0 hz1 hz2 rfl (by decide) _ _ _ rfl ((ownsRow_drewN hown _).alloc _) ⟨wr.heap.size, 0, none⟩ 1 1 [.string (cur.extract 4 (4 + b))] rfl rfl (cell_one_new _ _ _) (by simp [Value.oneCell']) (by unfold maxLen; omega) (by omega) (by have := Hsz.out; simp; omega) ?_; intro v' w1 hown1 hgrow1 _)
        rw [← HT.out] at hown1
        rw [← HS'.out]
        refine ⟨⟨done ++ [t], todo, s', rfl, Lib.hid (by rw [hl.out]; simp), HE', by omega, ?_, ?_⟩, ?_⟩
        · rw [List.length_append, List.map_append]; exact hown1
        · exact ((below_drewN' hB _).alloc Hsz.out _).grown hgrow1 (by have := Hsz.out; simp; omega) (fun k hk => (hown.lt k hk).1)
        · show s'.size < cur.size
          omega
end Go.Proofs.Ytingoaklioplaaa
