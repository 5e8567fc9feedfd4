/- The contract of pack.All's iterator: it hands on the whole packed texts at the head of a text, each with its index from 0. Condition: the text is of at most 4194304 bytes. -/
import Derived.RangeFuncNested
import Derived.RangeFuncBound
import Derived.RangeFuncCalls
import Derived.RangeFuncLeaves
import Derived.Shelf.Abstract
import Derived.Shelf.RegionOpen
import Derived.WalkKit
import Derived.OwnWalkIn
import Derived.TacticsInMore
import Derived.LoopNIn
import Derived.LoopIn
import Derived.Test.YtingoaklioplaaaPackSpeaks
namespace Go.Proofs.Ytingoaklioplaaa
open Go.RowKit Go.Shelf
attribute [local go_sem] Oper.semAt_some
set_option linter.unusedVariables false

abbrev encT (l : List ByteArray) (i : Fin l.length) : Array Value := #[.int .i64 (i.val : Nat), .string l[i.val]]
theorem drewN_grownBy (w : World) (n : Nat) : w.grownBy (w.drewN n) none := ⟨rfl, rfl, rfl, Nat.le_refl _, fun _ _ _ => rfl⟩

set_option maxHeartbeats 1000000 in
theorem all_stops (s r : ByteArray) (l : List ByteArray) (he : Ends s l r) (hs : s.size ≤ 4194304) (Bn : Nat) (w : World) (hBn : Bn < w.heap.size) (hc : w.cell? ⟨Bn, 0, none⟩ = some (.string s)) :
    SeqStopsK Fence.wide 2 Try.prog 35 #[.pointer (some ⟨Bn, 0, none⟩)] (encT l) (fun _ _ => True) (fun xs => xs.map (·.val) = List.range l.length) (fun pre => pre.map (·.val) = List.range pre.length) l.length w := fun L J Jx W hW hJ hJx hY h0 => by
  have hcW : W.cell? ⟨Bn, 0, none⟩ = some (.string s) := (hW.cell (p := ⟨Bn, 0, none⟩) hBn).trans hc
  have He := Lib.hid he
  have Hll : Hid (l.length ≤ 4194304) := Lib.hid (by have := ends_length he; omega)
  have HY := Lib.hid hY
  have HJ := Lib.hid hJ
  clear he hY hJ hJx
  refine callsIn_of_wp Try.func35 rfl trivial ?_ rfl
  simp only [Try.ntmps35, List.size_toArray, List.length_cons, List.length_nil, Nat.reduceAdd, Nat.reduceSub, Array.replicate_succ, Array.replicate_zero, List.push_toArray, List.append_toArray, List.nil_append, List.cons_append]
  gi_wp2
  gi_loopw [3, 4] (fun c i wr => ∃ (k : Nat) (pre : List (Fin l.length)) (cur : ByteArray), c = .string cur ∧ i = .int .i64 k ∧ Hid (k ≤ l.length) ∧ k ≤ 4194304 ∧ Hid (pre.map (·.val) = List.range k) ∧ Hid (Ends cur (l.drop k) r) ∧ cur.size ≤ 4194304 ∧ Hid (J pre wr)) (fun c _ _ => match c with | .string s => s.size | _ => 0)
  case atStart => exact ⟨0, [], s, rfl, rfl, Lib.hid (Nat.zero_le _), by omega, Lib.hid rfl, He, hs, Lib.hid h0⟩
  case round =>
    obtain ⟨k, pre, cur, rfl, rfl, hk, hk2, hp, hE, hcs, hJs⟩ := hrel
    by_cases hlt : k < l.length
    · have hdc : l.drop k = l[k] :: l.drop (k + 1) := List.drop_eq_getElem_cons hlt
      have hE' := hE.out
      rw [hdc] at hE'
      obtain ⟨s', hcut, hE2⟩ := hE'
      have hsm := cut_smaller hcut
      have Hcut := Lib.hid hcut
      have HE2 := Lib.hid hE2
      have HLT := Lib.hid hlt
      have hgt : encT l ⟨k, hlt⟩ = #[.int .i64 k, .string l[k]] := rfl
      have HX := Lib.hid hgt
      have hkl : Hid (pre.length = k) := Lib.hid (by have := congrArg List.length hp.out; simpa using this)
      clear hdc hE hcut hE2 hgt
      gi_wp2_with fail
      refine ⟨trivial, ?_⟩
      refine (callsIn_wide.2 (first_some cur l[k] s' _ (by unfold maxLen; omega) Hcut.out)).mono ?_
      rintro e w' ⟨rfl, n, rfl⟩
      have hJ2 : J pre (wr.drewN n) := HJ.out pre wr _ none hJs.out (drewN_grownBy wr n) (fun r e => by cases e)
      obtain ⟨fn, tmps, assign, body, hy, hR⟩ := HY.out pre ⟨k, hlt⟩ (wr.drewN n) hJ2 (by rw [hkl.out]; exact hlt)
      rw [HX.out] at hy
      have HR := Lib.hid hR
      clear hR hJ2
      have hP1 : Hid ((pre ++ [(⟨k, hlt⟩ : Fin l.length)]).map (·.val) = List.range (k + 1)) := Lib.hid (by rw [List.map_append, hp.out, List.range_succ]; rfl)
      have hP2 : Hid ((pre ++ [(⟨k, hlt⟩ : Fin l.length)]).map (·.val) = List.range (pre ++ [(⟨k, hlt⟩ : Fin l.length)]).length) := Lib.hid (by rw [hP1.out, List.length_append, hkl.out]; rfl)
      generalize pre ++ [(⟨k, hlt⟩ : Fin l.length)] = pre2 at *
      generalize l[k] = t at *
      gi_wp2
      refine HR.out.mono ?_
      rintro e W' (⟨rfl, hJ', _⟩ | ⟨rfl, hJx'⟩)
      · have HJ' := Lib.hid hJ'
        clear hJ'
        gi_wp2
        refine ⟨⟨k + 1, pre2, s', rfl, by go_num, Lib.hid HLT.out, by have := HLT.out; have := Hll.out; omega, hP1, HE2, by omega, HJ'⟩, ?_⟩
        show s'.size < cur.size
        omega
      · have HJx' := Lib.hid hJx'
        clear hJx'
        gi_wp2
        refine bodyPost_ret (results_none rfl _ _ _) rfl ?_
        exact ⟨⟨_, rfl⟩, .inr ⟨_, hP2.out, HJx'.out⟩⟩
    · have hd : l.drop k = [] := List.drop_eq_nil_of_le (by omega)
      have hE' := hE.out
      rw [hd] at hE'
      have Hn := Lib.hid hE'.1
      have hkE : Hid (k = l.length) := Lib.hid (by have := hk.out; omega)
      clear hE' hd hlt
      gi_wp2_with fail
      refine ⟨trivial, ?_⟩
      refine (callsIn_wide.2 (first_none cur _ (by unfold maxLen; omega) Hn.out)).mono ?_
      rintro e w' ⟨rfl, n, rfl⟩
      have hJN : Hid (J pre (wr.drewN n)) := Lib.hid (HJ.out pre wr _ none hJs.out (drewN_grownBy wr n) (fun r e => by cases e))
      gi_wp2
      refine ⟨fun _ h => (by cases h), ?_⟩
      gi_wp2
      refine bodyPost_ret (results_none rfl _ _ _) rfl ?_
      exact ⟨⟨_, rfl⟩, .inl ⟨pre, by rw [hp.out, hkE.out], hJN.out⟩⟩
end Go.Proofs.Ytingoaklioplaaa
