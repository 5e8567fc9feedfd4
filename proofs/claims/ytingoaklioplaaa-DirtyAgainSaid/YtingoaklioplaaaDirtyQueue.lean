/- The walks of the queue's small methods: New, its order, Has, Len, put, over what the queue's blocks hold. Conditions: numbers fit an int. -/
import Derived.Test.YtingoaklioplaaaDirtyMap
import Derived.Test.YtingoaklioplaaaDirtyKeep
import Derived.Outline
import Derived.OwnWalk
import Derived.Below
import Derived.BigRegion
import Derived.RegionTactic
import Derived.BigQuiet
import Derived.Deep.QuietTactic
import Derived.Laws.EntriesVeiled
namespace Go.Proofs.Ytingoaklioplaaa
open Go.RowKit
set_option linter.unusedVariables false

/-- The order in a queue's field: of the numbers, or turned as a captured variable says. -/
def LessIs (w : World) (F : Value) (t : Bool) (Pr : Nat → Prop) : Prop :=
  (F = .func (.func 36) #[] #[] ∧ t = false) ∨ ∃ tb, F = .func (.func 25) #[] #[.pointer (some ⟨tb, 0, none⟩)] ∧ w.cell? ⟨tb, 0, none⟩ = some (.bool t) ∧ Pr tb
/-- What a queue's blocks hold: its struct at Q, its map at M, its row, none of them protected. -/
structure QS (Pr : Nat → Prop) (w : World) (Q M N : Nat) (F : Value) (t : Bool) (sv : Value) (hp : List Int) (f : Int → Option Nat) : Prop where
  blk : w.heap[Q]? = some (.cells #[F, sv, .map (some M)] 67 (0, 0))
  own : w.ownsRow 0 3 1 sv hp.length (hp.map (Value.int .i64))
  map : MapAt w M N f
  hQ : ¬ Pr Q
  hM : ¬ Pr M
  row : sv.ownBlock ≠ some Q
  free : ∀ g, sv.ownBlock = some g → ¬ Pr g
  wf : ∀ n ∈ hp, IsI64 n
  less : LessIs w F t Pr

theorem QS.c0 {Pr : Nat → Prop} {Q M N : Nat} {w : World} {F sv : Value} {t : Bool} {hp : List Int} {f : Int → Option Nat} (h : QS Pr w Q M N F t sv hp f) : w.cell? ⟨Q, 0, none⟩ = some F := by
  rw [cell_of_row w Q 0 _ _ _ h.blk]; rfl
theorem QS.c1 {Pr : Nat → Prop} {Q M N : Nat} {w : World} {F sv : Value} {t : Bool} {hp : List Int} {f : Int → Option Nat} (h : QS Pr w Q M N F t sv hp f) : w.cell? ⟨Q, 1, none⟩ = some sv := by
  rw [cell_of_row w Q 1 _ _ _ h.blk]; rfl
theorem QS.c2 {Pr : Nat → Prop} {Q M N : Nat} {w : World} {F sv : Value} {t : Bool} {hp : List Int} {f : Int → Option Nat} (h : QS Pr w Q M N F t sv hp f) : w.cell? ⟨Q, 2, none⟩ = some (.map (some M)) := by
  rw [cell_of_row w Q 2 _ _ _ h.blk]; rfl
theorem QS.fr {Pr : Nat → Prop} {Q M N : Nat} {w : World} {F sv : Value} {t : Bool} {hp : List Int} {f : Int → Option Nat} (h : QS Pr w Q M N F t sv hp f) (j : Nat) : w.frozen? ⟨Q, j, none⟩ = false := frozen_of_row w Q j _ _ h.blk

theorem new1_calls (a b : Int) (w : World) : Calls Try.prog 36 #[.int .i64 a, .int .i64 b] w fun e w' => e = .returned (.bool (ltB false a b)) ∧ w = w' := by
  go_enter Try.func36, Try.ntmps36
  go_wp2
  go_ret
  exact ⟨rfl, rfl⟩
theorem play1_calls (a b : Int) (t : Bool) (tb : Nat) (w : World) (hc : w.cell? ⟨tb, 0, none⟩ = some (.bool t)) : Calls Try.prog 25 #[.int .i64 a, .int .i64 b, .pointer (some ⟨tb, 0, none⟩)] w fun e w' => e = .returned (.bool (ltB t a b)) ∧ w = w' := by
  cases t
  · go_enter Try.func25, Try.ntmps25
    go_wp2
    go_ret
    exact ⟨rfl, rfl⟩
  · have e : ltB true a b = decide (b < a) := by unfold ltB kap; simp; 
    rw [e]
    go_enter Try.func25, Try.ntmps25
    go_wp2
    go_ret
    exact ⟨rfl, rfl⟩

set_option maxHeartbeats 400000 in
theorem put_walk (w W1 W2 : World) (Q g M : Nat) (F v0 old : Value) (i len cap : Nat) (n st : Int) (hi : i < len) (hl : len ≤ 9223372036854775807)
    (c1 : w.cell? ⟨Q, 1, none⟩ = some (.slice (some ⟨g, 0, none⟩) len cap)) (c2 : w.cell? ⟨Q, 2, none⟩ = some (.map (some M))) (co : w.cell? ⟨g, i, none⟩ = some old) (cf : w.frozen? ⟨g, i, none⟩ = false)
    (h1 : (Instr.mapEntry 65 (.map (some M)) (.int .i64 n)).run Try.prog (w.setCell ⟨g, i, none⟩ (.int .i64 n)).drew = .ok (.tuple #[v0, .int .i64 st]) W1)
    (h2 : (Instr.entryStore 65 (.map (some M)) (.int .i64 st) (.int .i64 (i : Nat))).run Try.prog W1 = .ok () W2) :
    Calls Try.prog 39 #[.pointer (some ⟨Q, 0, none⟩), .int .i64 (i : Nat), .int .i64 n] w fun e w' => e = .returned (.tuple #[]) ∧ w' = W2 := by
  go_enter Try.func39, Try.ntmps39
  go_wp2
  go_region
  all_goals (go_end0; exact ⟨rfl, rfl⟩)
theorem has_walk (w : World) (Q M : Nat) (n c : Int) (b : Bool) (c2 : w.cell? ⟨Q, 2, none⟩ = some (.map (some M)))
    (h : (Instr.lookup 65 (.map (some M)) (.int .i64 n) true).run Try.prog w = .ok (.tuple #[.int .i64 c, .bool b]) w) :
    Calls Try.prog 29 #[.pointer (some ⟨Q, 0, none⟩), .int .i64 n] w fun e w' => e = .returned (.bool b) ∧ w = w' := by
  go_enter Try.func29, Try.ntmps29
  go_wp2
  go_ret
  exact ⟨rfl, rfl⟩
theorem len_walk (w : World) (Q len cap : Nat) (a : Option Addr) (c1 : w.cell? ⟨Q, 1, none⟩ = some (.slice a len cap)) :
    Calls Try.prog 31 #[.pointer (some ⟨Q, 0, none⟩)] w fun e w' => e = .returned (.int .i64 (len : Nat)) ∧ w = w' := by
  go_enter Try.func31, Try.ntmps31
  go_wp2
  go_ret
  exact ⟨rfl, rfl⟩
theorem eql_nil (w : World) : (binOp .eql 45 .nilFunc .nilFunc).run Try.prog w = .ok (.bool true) w := by kernel_rfl
theorem eql_func (tb : Nat) (w : World) : (binOp .eql 45 (.func (.func 25) #[] #[.pointer (some ⟨tb, 0, none⟩)]) .nilFunc).run Try.prog w = .ok (.bool false) w := by kernel_rfl
theorem new_nil (w : World) : Calls Try.prog 26 #[.nilFunc] w fun e w' => e = .returned (.pointer (some ⟨w.heap.size + 1, 0, none⟩)) ∧ w' = (w.alloc (.map #[] 0)).alloc (.cells #[.func (.func 36) #[] #[], .slice none 0 0, .map (some w.heap.size)] 67) := by
  have hmm := @run_makeMap Try.prog
  have hq := eql_nil
  go_enter Try.func26, Try.ntmps26
  go_wp2
  go_ret
  exact ⟨rfl, rfl⟩
theorem new_less (tb : Nat) (w : World) : Calls Try.prog 26 #[.func (.func 25) #[] #[.pointer (some ⟨tb, 0, none⟩)]] w fun e w' => e = .returned (.pointer (some ⟨w.heap.size + 1, 0, none⟩)) ∧ w' = (w.alloc (.map #[] 0)).alloc (.cells #[.func (.func 25) #[] #[.pointer (some ⟨tb, 0, none⟩)], .slice none 0 0, .map (some w.heap.size)] 67) := by
  have hmm := @run_makeMap Try.prog
  have hq := eql_func
  go_enter Try.func26, Try.ntmps26
  go_wp2
  go_ret
  exact ⟨rfl, rfl⟩
end Go.Proofs.Ytingoaklioplaaa
