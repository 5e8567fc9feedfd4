/- What holds within a round of DirtyAgain: the state and the boxed act, through each step of the map and the queue. Conditions: numbers fit an int. -/
import Derived.Test.YtingoaklioplaaaDirtyIn
namespace Go.Proofs.Ytingoaklioplaaa
open Go.RowKit Go.Maps
set_option linter.unusedVariables false
/-- The outer loop at its head. -/
def AgainLoop (W : World) (Q M B i : Nat) (wr : World) : Prop :=
  ∃ (Pr : Nat → Prop) (N k b : Nat) (S : Int → Bool) (hp : List Int), k ≤ i ∧ N ≤ i * 1000 ∧ b ≤ i ∧ AS Pr W wr Q M N B b k k S S hp
/-- In a round: the act lies boxed at bx. -/
structure AMid (Pr : Nat → Prop) (W w : World) (Q M N B b k m : Nat) (S T : Int → Bool) (hp : List Int) (bx : Nat) (q n : Int) : Prop where
  st : AS Pr W w Q M N B b k m S T hp
  pb : Pr bx
  c0 : w.cell? ⟨bx, 0, none⟩ = some (.int .i64 q)
  c1 : w.cell? ⟨bx, 1, none⟩ = some (.int .i64 n)
  ne : bx ≠ B
section
variable {Pr : Nat → Prop} {W w w' : World} {Q M N N' B b k k' m : Nat} {S S' T : Int → Bool} {hp hp' : List Int} {bx : Nat} {q n : Int}
theorem amid_start (h : AS Pr W w Q M N B b k m S T hp) : AMid (Ext Pr w (w.alloc (.cells #[.int .i64 q, .int .i64 n] 50))) W (w.alloc (.cells #[.int .i64 q, .int .i64 n] 50)) Q M N B b k m S T hp w.heap.size q n := by
  refine ⟨h.grow (World.grownBy_alloc w _ none), .inr ⟨Nat.le_refl _, by simp⟩, ?_, ?_, ?_⟩
  · rw [cell_of_row _ _ 0 _ _ _ (MapKept.heap_alloc w _).1]; rfl
  · rw [cell_of_row _ _ 1 _ _ _ (MapKept.heap_alloc w _).1]; rfl
  · have := h.qu.bw _ h.pr
    omega
theorem AMid.drewN (h : AMid Pr W w Q M N B b k m S T hp bx q n) (j : Nat) : AMid Pr W (w.drewN j) Q M N B b k m S T hp bx q n := ⟨h.st.drewN j, h.pb, h.c0, h.c1, h.ne⟩
theorem AMid.queue (h : AMid Pr W w Q M N B b k m S T hp bx q n) (hq : Qu Pr w' Q M N' (.func (.func 36) #[] #[]) false k' S' hp') (hK : Keeps Pr w w') : AMid Pr W w' Q M N' B b k' m S' T hp' bx q n :=
  ⟨h.st.queue hq hK, h.pb, (hK.cell (p := ⟨bx, 0, none⟩) h.pb).trans h.c0, (hK.cell (p := ⟨bx, 1, none⟩) h.pb).trans h.c1, h.ne⟩
theorem AMid.step {row : Option Nat} {b' m' : Nat} {T' : Int → Bool} {D' : DataW Unit} (h : AMid Pr W w Q M N B b k m S T hp bx q n) (hg : w.grownBy w' row) (hr : ∀ g, row = some g → g = B)
    (hown : w'.ownsMap Try.prog 3 (plainElem Try.prog 4) B b' D') (hD : Holds D' m' T') : AMid (Ext Pr w w') W w' Q M N B b' k m' S T' hp bx q n := by
  have hb := h.st.qu.bw _ h.pb
  have e := hg.block bx hb (fun e => h.ne (hr bx e.symm))
  exact ⟨h.st.step hg hr hown hD, .inl h.pb, (World.cell?_of_block (w := w) (a := ⟨bx, 0, none⟩) e).trans h.c0, (World.cell?_of_block (w := w) (a := ⟨bx, 1, none⟩) e).trans h.c1, h.ne⟩
theorem AMid.grow (h : AMid Pr W w Q M N B b k m S T hp bx q n) (hg : w.grownBy w' none) : AMid (Ext Pr w w') W w' Q M N B b k m S T hp bx q n := by
  obtain ⟨D, hown, hD⟩ := h.st.ex
  exact h.step hg (fun g e => by cases e) (hown.kept hg (by simp)) hD
/-- m[x] = true, where x is not there. -/
theorem AMid.put (h : AMid Pr W w Q M N B b k m S T hp bx q n) {x : Int} (hx : IsI64 x) (hT : T x = false) (hb : b < maxLen) :
    ∃ w', (Instr.mapUpdate 56 (.map (some B)) (.int .i64 x) (.bool true)).run Try.prog w = .ok () w' ∧ AMid (Ext Pr w w') W w' Q M N B (b + 1) k (m + 1) S (fun y => decide (y = x) || T y) hp bx q n := by
  obtain ⟨D, hown, hD⟩ := h.st.ex
  obtain ⟨w', hrun, hown', hturn⟩ := hown.store keyed3 Try.underlying56 hb (key3 hx) (plainElem_bool Try.underlying4 true)
  exact ⟨w', hrun, h.step hturn.grown (fun g e => by cases e; rfl) hown' (hD.put hx hT)⟩
/-- m[x] = true, where x is there. -/
theorem AMid.put_in (h : AMid Pr W w Q M N B b k m S T hp bx q n) {x : Int} (hx : IsI64 x) (hT : T x = true) (hb : b < maxLen) :
    ∃ w', (Instr.mapUpdate 56 (.map (some B)) (.int .i64 x) (.bool true)).run Try.prog w = .ok () w' ∧ AMid (Ext Pr w w') W w' Q M N B (b + 1) k m S T hp bx q n := by
  obtain ⟨D, hown, hD⟩ := h.st.ex
  obtain ⟨w', hrun, hown', hturn⟩ := hown.store keyed3 Try.underlying56 hb (key3 hx) (plainElem_bool Try.underlying4 true)
  refine ⟨w', hrun, h.step hturn.grown (fun g e => by cases e; rfl) hown' ⟨hD.tidy.put (isKeyLit_int x hx) _, ?_, fun y hy => ?_, fun y hy hTy z => ?_⟩⟩
  · rw [size_put hD.tidy, hD.has x hx, hT, hD.size]; rfl
  · by_cases e : y = x
    · subst e
      rw [has_put_same hD.tidy.isMap (isKeyLit_int y hy), hT]
    · rw [has_put_other (lit_ne e), hD.has y hy]
  · by_cases e : y = x
    · subst e
      exact atKey_put_same hD.tidy.isMap (isKeyLit_int y hy) _ z
    · rw [atKey_put_other (lit_ne e)]
      exact hD.val y hy hTy z
/-- delete(m, x), where x is there. -/
theorem AMid.del (h : AMid Pr W w Q M N B b k (m + 1) S T hp bx q n) {x : Int} (hx : IsI64 x) (hT : T x = true) (ty : TypeId) :
    ∃ w', (Builtin.delete_ #[56, 3] ty #[.map (some B), .int .i64 x]).run Try.prog w = .ok (.tuple #[]) w' ∧ AMid (Ext Pr w w') W w' Q M N B b k m S (fun y => !decide (y = x) && T y) hp bx q n := by
  obtain ⟨D, hown, hD⟩ := h.st.ex
  obtain ⟨w', hrun, hown', hturn⟩ := hown.drop keyed3 Try.underlying56 (key3 hx) ty
  exact ⟨w', hrun, h.step hturn.grown (fun g e => by cases e; rfl) hown' (hD.del hx hT)⟩
/-- delete(m, x), where x is not there. -/
theorem AMid.del_no (h : AMid Pr W w Q M N B b k m S T hp bx q n) {x : Int} (hx : IsI64 x) (hT : T x = false) (ty : TypeId) :
    ∃ w', (Builtin.delete_ #[56, 3] ty #[.map (some B), .int .i64 x]).run Try.prog w = .ok (.tuple #[]) w' ∧ AMid (Ext Pr w w') W w' Q M N B b k m S T hp bx q n := by
  obtain ⟨D, hown, hD⟩ := h.st.ex
  obtain ⟨w', hrun, hown', hturn⟩ := hown.drop keyed3 Try.underlying56 (key3 hx) ty
  exact ⟨w', hrun, h.step hturn.grown (fun g e => by cases e; rfl) hown' (hD.del_no hx hT)⟩
/-- The state where a round ends well. -/
theorem again_next {i : Nat} (h : AMid Pr W w Q M N B b k k S S hp bx q n) (hk : k ≤ i + 1) (hN : N ≤ (i + 1) * 1000) (hb : b ≤ i + 1) : AgainLoop W Q M B (i + 1) w :=
  ⟨Pr, N, k, b, S, hp, hk, hN, hb, h.st⟩
/-- A key that is to come is a number that the map says is there. -/
theorem come_there {D : DataW Unit} {left : Lit → Bool} {x : Int} (hD : Holds D m T) (hh : ∀ kl, left kl = true → has D kl = true) (hx : IsI64 x) (hl : left (.int .i64 x) = true) : T x = true := (hD.has x hx).symm.trans (hh _ hl)
/-- The rest of the keys are still there. -/
theorem come_rest {D : DataW Unit} {left : Lit → Bool} (y : Lit) (hh : ∀ kl, left kl = true → has D kl = true) : ∀ kl, (left kl && !kl.sameKey y) = true → has D kl = true := fun kl h => hh kl (by simp at h; exact h.1)
theorem none_there {D : DataW Unit} (hD : Holds D 0 T) {x : Int} (hx : IsI64 x) : T x = false := by
  obtain ⟨es, rfl⟩ := hD.tidy.isMap
  have h0 : es = [] := List.eq_nil_of_length_eq_zero hD.size
  subst h0
  exact (hD.has x hx).symm
end
theorem invK3 : ∀ key kl, keyOf Try.prog 3 key = some kl → ∃ x, key = Value.int .i64 x := fun key kl h => by
  obtain ⟨x, rfl, _⟩ := keyOf_int_inv Try.underlying3 h
  exact ⟨x, rfl⟩
/-- The step of the range over the map: either nothing is left, or a number that is still to come. -/
theorem wpList_next_in (w : World) {ops : Array Oper} {rest : List Oper} {o : Oper} {a : Act} {Q : Exit → Act → World → Prop} (hg : o.guard = none) (it : Operand) (hop : o.op = Op.next it false)
    (b r n : Nat) (D : DataW Unit) (left : Lit → Bool) (cnt : Nat) (hit : a.eval it = .pointer (some ⟨r, 0, none⟩)) (h : w.ranges Try.prog 3 (plainElem Try.prog 4) b r n D left cnt)
    (hDone : cnt = 0 → wpList Try.prog ops Q rest (a.put o.dst (.tuple #[.bool false])) w)
    (hMore : ∀ (x : Int) (v : Value) (w' : World) (cnt' : Nat), IsI64 x → left (.int .i64 x) = true → w'.ranges Try.prog 3 (plainElem Try.prog 4) b r n D (fun z => left z && !z.sameKey (.int .i64 x)) cnt' → cnt' < cnt →
      w.grownBy w' (some r) → (Instr.entry (.pointer (some ⟨r, 0, none⟩))).run Try.prog w' = .ok (.tuple #[.int .i64 x, v]) w' → wpList Try.prog ops Q rest (a.put o.dst (.tuple #[.bool true, .int .i64 x, v])) w') :
    wpList Try.prog ops Q (o :: rest) a w :=
  wpList_next_ranges w hg it hop 3 keyed3 (plainElem Try.prog 4) (Value.int .i64) (fun v => v) invK3 (fun v y h => ⟨v, rfl⟩) b r n D left cnt hit h (fun h0 _ => hDone h0) (fun x v kl y w' cnt' hkey hlk hv hat hrg hlt hgr hsz hen => by
    obtain ⟨x', ex, rfl, hw⟩ := keyOf_int_inv Try.underlying3 hkey
    cases ex
    exact hMore x v w' cnt' (is64_of_wf hw) hlk hrg hlt hgr hen)
theorem start_as {W w1 : World} (h : Below W.heap.size W w1) :
    AgainLoop W (w1.heap.size + 1) w1.heap.size (w1.heap.size + 1 + 1) 0 (((w1.alloc (.map #[] 0)).alloc (.cells #[.func (.func 36) #[] #[], .slice none 0 0, .map (some w1.heap.size)] 67)).alloc (.map #[] 0)) := by
  have hs := h.size
  have hq := new_qu w1 (.func (.func 36) #[] #[]) false (fun k => k < w1.heap.size) (fun _ h => h) (.inl ⟨rfl, rfl⟩)
  have hg := World.grownBy_alloc ((w1.alloc (.map #[] 0)).alloc (.cells #[.func (.func 36) #[] #[], .slice none 0 0, .map (some w1.heap.size)] 67)) (.map #[] 0) none
  have e1 : ((w1.alloc (.map #[] 0)).alloc (.cells #[.func (.func 36) #[] #[], .slice none 0 0, .map (some w1.heap.size)] 67)).heap.size = w1.heap.size + 1 + 1 := by simp
  refine ⟨fun k => k < w1.heap.size ∨ k = w1.heap.size + 1 + 1, 0, 0, 0, fun _ => false, [], Nat.le_refl _, Nat.le_refl _, Nat.le_refl _, ?_, fun j hj => .inl (by omega), ?_, ⟨.map [], ?_, ⟨tidy_empty, rfl, fun y hy => rfl, fun y hy h => by cases h⟩⟩, .inr rfl, by omega⟩
  · exact hq.law hg (fun g e => by cases e) (fun j hj hx => hx.elim id (fun x => absurd x (by rw [e1] at hj; omega))) (fun j hx => by simp; omega) (.inl ⟨rfl, rfl⟩)
  · exact (((h.alloc hs _).alloc (by simp; omega) _).alloc (by simp; omega) _)
  · rw [← e1]
    exact World.ownsMap_made _ _ _ _
end Go.Proofs.Ytingoaklioplaaa
