/- Which blocks a call leaves alone: the blocks of a chosen set, all there before the call. Conditions: those written. -/
import Derived.WalkKit
import Derived.Below
namespace Go.Proofs.Ytingoaklioplaaa
open Go.RowKit
set_option linter.unusedVariables false

/-- The chosen blocks are as they were; the streams are as they were; no block has gone. -/
structure Keeps (Pr : Nat → Prop) (w w' : World) : Prop where
  os : w'.os = w.os
  tape : w'.tape = w.tape
  output : w'.output = w.output
  size : w.heap.size ≤ w'.heap.size
  block : ∀ k, Pr k → w'.heap[k]? = w.heap[k]?
/-- The chosen blocks are all there. -/
def Old (Pr : Nat → Prop) (w : World) : Prop := ∀ k, Pr k → k < w.heap.size
theorem Old.up {Pr : Nat → Prop} {w w' : World} (h : Old Pr w) (hs : w.heap.size ≤ w'.heap.size) : Old Pr w' := fun k hk => Nat.lt_of_lt_of_le (h k hk) hs
theorem Keeps.refl (Pr : Nat → Prop) (w : World) : Keeps Pr w w := ⟨rfl, rfl, rfl, Nat.le_refl _, fun _ _ => rfl⟩
theorem Keeps.trans {Pr : Nat → Prop} {a b c : World} (h : Keeps Pr a b) (k : Keeps Pr b c) : Keeps Pr a c :=
  ⟨k.os.trans h.os, k.tape.trans h.tape, k.output.trans h.output, Nat.le_trans h.size k.size, fun i hi => (k.block i hi).trans (h.block i hi)⟩
theorem Keeps.drew {Pr : Nat → Prop} {a w : World} (h : Keeps Pr a w) : Keeps Pr a w.drew := ⟨h.os, h.tape, h.output, h.size, h.block⟩
theorem Keeps.alloc {Pr : Nat → Prop} {a w : World} (h : Keeps Pr a w) (hB : Old Pr w) (o : Obj) : Keeps Pr a (w.alloc o) :=
  h.trans ⟨rfl, rfl, rfl, by simp, fun k hk => Below.heap_alloc _ _ _ (hB k hk)⟩
theorem Keeps.setCell {Pr : Nat → Prop} {a w : World} (h : Keeps Pr a w) {p : Addr} (hp : ¬ Pr p.block) (u : Value) : Keeps Pr a (w.setCell p u) :=
  h.trans ⟨rfl, rfl, rfl, by simp, fun k hk => Below.heap_setCell _ _ _ _ (fun e => hp (e ▸ hk))⟩
theorem Keeps.grown {Pr : Nat → Prop} {a w w' : World} {row : Option Nat} (h : Keeps Pr a w) (hg : w.grownBy w' row) (hB : Old Pr w) (hr : ∀ k, row = some k → ¬ Pr k) : Keeps Pr a w' :=
  h.trans ⟨hg.os, hg.tape, hg.output, hg.size, fun k hk => hg.block k (hB k hk) (fun e => hr k e.symm hk)⟩
theorem Keeps.cell {Pr : Nat → Prop} {w w' : World} (h : Keeps Pr w w') {p : Addr} (hp : Pr p.block) : w'.cell? p = w.cell? p := World.cell?_of_block (w := w) (h.block p.block hp)
theorem Keeps.mono {Pr Pr' : Nat → Prop} {w w' : World} (h : Keeps Pr w w') (hs : ∀ k, Pr' k → Pr k) : Keeps Pr' w w' := ⟨h.os, h.tape, h.output, h.size, fun k hk => h.block k (hs k hk)⟩
theorem Keeps.below {Pr : Nat → Prop} {B : Nat} {w w' : World} (h : Keeps Pr w w') (hs : ∀ k, k < B → Pr k) : Below B w w' := ⟨h.os, h.tape, h.output, h.size, fun k hk => h.block k (hs k hk)⟩
theorem Below.keeps {B : Nat} {w w' : World} (h : Below B w w') : Keeps (fun k => k < B) w w' := ⟨h.os, h.tape, h.output, h.size, h.block⟩
end Go.Proofs.Ytingoaklioplaaa
