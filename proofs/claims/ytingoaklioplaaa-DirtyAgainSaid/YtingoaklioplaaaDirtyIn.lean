/- What DirtyAgain's own memory and the queue hold together: the queue and the map of the numbers in it. Conditions: numbers fit an int. -/
import Derived.Test.YtingoaklioplaaaDirtyActs
import Derived.Maps.RangeWalk
namespace Go.Proofs.Ytingoaklioplaaa
open Go.RowKit Go.Maps
set_option linter.unusedVariables false

theorem zero4 (w : World) : (zeroValue 4).run Try.prog w = .ok (.bool false) w := by kernel_rfl
theorem plainElem_bool_inv {v : Value} {y : DataW Unit × List MemPlace} (h : plainElem Try.prog 4 v = some y) : ∃ c, v = .bool c ∧ y = (.lit (.bool c), []) := by
  unfold plainElem at h
  rw [Try.underlying4] at h
  cases v <;> simp at h
  exact ⟨_, rfl, h.symm⟩
/-- The datum says which numbers are there, each with true. -/
structure Holds (D : DataW Unit) (k : Nat) (T : Int → Bool) : Prop where
  tidy : Tidy D
  size : size D = k
  has : ∀ y, IsI64 y → has D (.int .i64 y) = T y
  val : ∀ y, IsI64 y → T y = true → ∀ z, D.atKey (.int .i64 y) z = .lit (.bool true)
theorem Holds.put {D : DataW Unit} {k : Nat} {T : Int → Bool} (h : Holds D k T) {n : Int} (hn : IsI64 n) (hT : T n = false) : Holds (D.put (.int .i64 n) (.lit (.bool true))) (k + 1) (fun y => decide (y = n) || T y) := by
  refine ⟨h.tidy.put (isKeyLit_int n hn) _, ?_, fun y hy => ?_, fun y hy hTy z => ?_⟩
  · rw [size_put h.tidy, h.has n hn, hT, h.size]; rfl
  · by_cases e : y = n
    · subst e
      rw [has_put_same h.tidy.isMap (isKeyLit_int y hy)]; simp
    · rw [has_put_other (lit_ne e), h.has y hy]; simp [e]
  · by_cases e : y = n
    · subst e
      exact atKey_put_same h.tidy.isMap (isKeyLit_int y hy) _ z
    · rw [atKey_put_other (lit_ne e)]
      exact h.val y hy (by simpa [e] using hTy) z
theorem Holds.del {D : DataW Unit} {k : Nat} {T : Int → Bool} (h : Holds D (k + 1) T) {n : Int} (hn : IsI64 n) (hT : T n = true) : Holds (D.del (.int .i64 n)) k (fun y => !decide (y = n) && T y) := by
  refine ⟨h.tidy.del _, ?_, fun y hy => ?_, fun y hy hTy z => ?_⟩
  · have := size_del (k := .int .i64 n) h.tidy
    rw [h.has n hn, hT, h.size] at this
    simpa using this
  · by_cases e : y = n
    · subst e
      rw [has_del_same]; simp
    · rw [has_del_other (lit_ne e), h.has y hy]; simp [e]
  · by_cases e : y = n
    · subst e
      simp at hTy
    · rw [atKey_del_other (lit_ne e)]
      exact h.val y hy (by simpa [e] using hTy) z
theorem Holds.del_no {D : DataW Unit} {k : Nat} {T : Int → Bool} (h : Holds D k T) {n : Int} (hn : IsI64 n) (hT : T n = false) : Holds (D.del (.int .i64 n)) k T := by
  rw [del_of_not_has (by rw [h.has n hn, hT])]; exact h

/-- The state of DirtyAgain: the queue says S and has k numbers, the map says T and has m. -/
structure AS (Pr : Nat → Prop) (W w : World) (Q M N B b k m : Nat) (S T : Int → Bool) (hp : List Int) : Prop where
  qu : Qu Pr w Q M N (.func (.func 36) #[] #[]) false k S hp
  low : ∀ j, j < W.heap.size → Pr j
  bel : Below W.heap.size W w
  ex : ∃ D : DataW Unit, w.ownsMap Try.prog 3 (plainElem Try.prog 4) B b D ∧ Holds D m T
  pr : Pr B
  hB : W.heap.size ≤ B

section
variable {Pr : Nat → Prop} {W w w' : World} {Q M N N' B b k k' m : Nat} {S S' T : Int → Bool} {hp hp' : List Int}
theorem AS.step {row : Option Nat} {b' m' : Nat} {T' : Int → Bool} {D' : DataW Unit} (h : AS Pr W w Q M N B b k m S T hp) (hg : w.grownBy w' row) (hr : ∀ g, row = some g → g = B)
    (hown : w'.ownsMap Try.prog 3 (plainElem Try.prog 4) B b' D') (hD : Holds D' m' T') : AS (Ext Pr w w') W w' Q M N B b' k m' S T' hp := by
  have hl : ∀ j, j < W.heap.size → j < w.heap.size := fun j hj => h.qu.bw _ (h.low _ hj)
  refine ⟨h.qu.law hg (fun g e => by rw [hr g e]; exact h.pr) (fun j hj hx => hx.elim id (fun x => absurd x.1 (by omega))) (fun j hx => hx.elim (fun x => Nat.lt_of_lt_of_le (h.qu.bw j x) hg.size) (fun x => x.2)) (.inl ⟨rfl, rfl⟩),
    fun j hj => .inl (h.low j hj), h.bel.grown hg ?_ (fun g e => by rw [hr g e]; exact h.hB), ⟨D', hown, hD⟩, .inl h.pr, h.hB⟩
  exact h.bel.size
theorem AS.grow (h : AS Pr W w Q M N B b k m S T hp) (hg : w.grownBy w' none) : AS (Ext Pr w w') W w' Q M N B b k m S T hp := by
  obtain ⟨D, hown, hD⟩ := h.ex
  exact h.step hg (fun g e => by cases e) (hown.kept hg (by simp)) hD
theorem AS.queue (h : AS Pr W w Q M N B b k m S T hp) (hq : Qu Pr w' Q M N' (.func (.func 36) #[] #[]) false k' S' hp') (hK : Keeps Pr w w') : AS Pr W w' Q M N' B b k' m S' T hp' := by
  obtain ⟨D, ⟨es, clock, hb, rest⟩, hD⟩ := h.ex
  exact ⟨hq, h.low, h.bel.trans (hK.below fun j hj => h.low j hj), ⟨D, ⟨es, clock, (hK.block B h.pr).trans hb, rest⟩, hD⟩, h.pr, h.hB⟩
theorem AS.drewN (h : AS Pr W w Q M N B b k m S T hp) (j : Nat) : AS Pr W (w.drewN j) Q M N B b k m S T hp := by
  have hg := drewN_grown w j
  obtain ⟨D, hown, hD⟩ := h.ex
  exact ⟨h.qu.law hg (fun g e => by cases e) (fun _ _ x => x) (fun i hi => h.qu.bw i hi) (.inl ⟨rfl, rfl⟩), h.low, ⟨h.bel.os, h.bel.tape, h.bel.output, h.bel.size, h.bel.block⟩, ⟨D, hown.kept hg (by simp), hD⟩, h.pr, h.hB⟩
/-- m[n]. -/
theorem AS.get (h : AS Pr W w Q M N B b k m S T hp) {n : Int} (hn : IsI64 n) {v : Bool} (hv : T n = v) : (Instr.lookup 56 (.map (some B)) (.int .i64 n) false).run Try.prog w = .ok (.bool v) w := by
  obtain ⟨D, hown, hD⟩ := h.ex
  obtain ⟨c, ps, hrun, hc⟩ := hown.lookup keyed3 Try.underlying56 (zero4 w) (plainElem_bool Try.underlying4 false) (key3 hn)
  obtain ⟨x, rfl, hx⟩ := plainElem_bool_inv hc
  rw [hrun]
  have h1 := congrArg Prod.fst hx
  simp only at h1
  cases v with
  | true => rw [hD.val n hn hv] at h1; cases h1; rfl
  | false => rw [atKey_of_not_has ((hD.has n hn).trans hv)] at h1; cases h1; rfl
/-- len(m). -/
theorem AS.len (h : AS Pr W w Q M N B b k m S T hp) (ty : TypeId) : (Builtin.len_ #[56] ty #[.map (some B)]).run Try.prog w = .ok (.int .i64 (m : Nat)) w := by
  obtain ⟨D, hown, hD⟩ := h.ex
  rw [← hD.size]
  exact hown.len Try.underlying56 ty
/-- m[n] = true, where n is not there. -/
theorem AS.put (h : AS Pr W w Q M N B b k m S T hp) {n : Int} (hn : IsI64 n) (hT : T n = false) (hb : b < maxLen) :
    ∃ w', (Instr.mapUpdate 56 (.map (some B)) (.int .i64 n) (.bool true)).run Try.prog w = .ok () w' ∧ AS (Ext Pr w w') W w' Q M N B (b + 1) k (m + 1) S (fun y => decide (y = n) || T y) hp := by
  obtain ⟨D, hown, hD⟩ := h.ex
  obtain ⟨w', hrun, hown', hturn⟩ := hown.store keyed3 Try.underlying56 hb (key3 hn) (plainElem_bool Try.underlying4 true)
  exact ⟨w', hrun, h.step hturn.grown (fun g e => by cases e; rfl) hown' (hD.put hn hT)⟩
/-- delete(m, n), where n is there. -/
theorem AS.del (h : AS Pr W w Q M N B b k (m + 1) S T hp) {n : Int} (hn : IsI64 n) (hT : T n = true) (ty : TypeId) :
    ∃ w', (Builtin.delete_ #[56, 3] ty #[.map (some B), .int .i64 n]).run Try.prog w = .ok (.tuple #[]) w' ∧ AS (Ext Pr w w') W w' Q M N B b k m S (fun y => !decide (y = n) && T y) hp := by
  obtain ⟨D, hown, hD⟩ := h.ex
  obtain ⟨w', hrun, hown', hturn⟩ := hown.drop keyed3 Try.underlying56 (key3 hn) ty
  exact ⟨w', hrun, h.step hturn.grown (fun g e => by cases e; rfl) hown' (hD.del hn hT)⟩
/-- delete(m, n), where n is not there. -/
theorem AS.del_no (h : AS Pr W w Q M N B b k m S T hp) {n : Int} (hn : IsI64 n) (hT : T n = false) (ty : TypeId) :
    ∃ w', (Builtin.delete_ #[56, 3] ty #[.map (some B), .int .i64 n]).run Try.prog w = .ok (.tuple #[]) w' ∧ AS (Ext Pr w w') W w' Q M N B b k m S T hp := by
  obtain ⟨D, hown, hD⟩ := h.ex
  obtain ⟨w', hrun, hown', hturn⟩ := hown.drop keyed3 Try.underlying56 (key3 hn) ty
  exact ⟨w', hrun, h.step hturn.grown (fun g e => by cases e; rfl) hown' (hD.del_no hn hT)⟩
end
end Go.Proofs.Ytingoaklioplaaa
