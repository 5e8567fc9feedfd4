/- An argument that is a slice of acts, opened to its cells. No condition beyond those written. -/
import Derived.Test.YtingoaklioplaaaDirtyCut
import Derived.Deep.SlicePairs
import Derived.ProofKit
namespace Go.Proofs.Ytingoaklioplaaa
open Go.RowKit Go.ChangeShapes Go.WideShapes Go.Deep
set_option linter.unusedVariables false
/-- The acts in an argument. -/
def ActsAt (W : World) (a : Option Addr) (len : Nat) : Prop := ∀ i, i < len → ∃ g off q n, a = some ⟨g, off, none⟩ ∧ g < W.heap.size ∧ W.cell? ⟨g, off + i * 2, none⟩ = some (.int .i64 q) ∧ W.cell? ⟨g, off + i * 2 + 1, none⟩ = some (.int .i64 n) ∧ IsI64 q ∧ IsI64 n
theorem is64_of_wf {n : Int} (h : (Lit.int .i64 n).wf = true) : IsI64 n := by
  simp only [Lit.wf, Bool.and_eq_true, decide_eq_true_eq] at h
  exact h
theorem lt_of_cell64 {w : World} {a : Addr} {v : Value} (h : w.cell? a = some v) : a.block < w.heap.size := by
  unfold World.cell? at h
  cases hb : w.heap[a.block]? with
  | none => rw [hb] at h; simp at h
  | some o => exact (Array.getElem?_eq_some_iff.1 hb).1
theorem acts_open {H : Type} {enc : TypeId × Value → H} {W : World} {spare : Nat → Bool} {held : Bool} {a : Option Addr} {len cap : Nat} {d : DataW H} {p : List MemPlace}
    (h : DataW.Trod enc Try.prog W 0 spare held 44 (.slice a len cap) d p) : ActsAt W a len ∧ len ≤ maxLen := by
  obtain ⟨fuel, hf⟩ := h
  rcases open_slice_pairs Try.underlying44 Try.underlying50 (by kernel_rfl) rfl rfl (by kernel_rfl) (by kernel_rfl) hf with ⟨hcs, hx⟩ | ⟨b, len', cap', m, n, V0, V1, D0, D1, P0, P1, hcs, _, hl, hm, hmm, hx, hi⟩
  · simp only [Value.cells] at hcs
    simp at hcs
    obtain ⟨rfl, rfl, rfl⟩ := hcs
    exact ⟨fun i hi => absurd hi (by omega), by decide⟩
  · simp only [Value.cells] at hcs
    simp at hcs
    obtain ⟨rfl, rfl, rfl⟩ := hcs
    refine ⟨fun i hil => ?_, by omega⟩
    have him : i < m := by rw [hmm]; split <;> omega
    obtain ⟨h0, h1, t0, t1⟩ := hi i him
    obtain ⟨q, e0, _, w0⟩ := DataW.trod_int Try.underlying3 t0
    obtain ⟨x, e1, _, w1⟩ := DataW.trod_int Try.underlying3 t1
    simp only [List.cons.injEq, and_true] at e0 e1
    rw [e0] at h0
    rw [e1] at h1
    obtain ⟨g, off, spot⟩ := b
    have hspot : spot = none := by simpa [Addr.add] using World.cell?_spot (hi 0 (by omega)).1
    subst hspot
    rw [Addr.add_lit] at h0
    rw [Addr.add_lit, ← Nat.add_assoc] at h1
    exact ⟨g, off, q, x, rfl, lt_of_cell64 h0, h0, h1, is64_of_wf w0, is64_of_wf w1⟩
end Go.Proofs.Ytingoaklioplaaa
