/- The queue's map of places, said as a function from numbers to places: what a look-up, a delete and a tuple's map store do to it. Conditions: numbers and places fit an int. -/
import Derived.Test.YtingoaklioplaaaProg
import Derived.Test.YtingoaklioplaaaDirtyLaw
import Derived.WalkKit
import Derived.WalkSpells
import Derived.WalkLawsBesides
import Derived.WideKeyEntry
import Derived.Maps.Own
import Derived.Maps.OwnOps
import Derived.Maps.OwnSet
import Derived.Maps.Views
import Derived.Lib.Hide
namespace Go.Proofs.Ytingoaklioplaaa
open Go.RowKit Go.MapKept Go.ChangeMaps
open Go.WideElems (Fit rd rg findIdx_born findIdx_arr modify_last set_self)
open Go.Maps (Keyed)
set_option linter.unusedVariables false

section
variable {H : Type} {P : Program} {w w' : World} {t k e : TypeId} {R : Value → Option (DataW H × List MemPlace)} {b : Nat} {es : Array MapEntry} {clock : Nat}
/-- A tuple's store into a map, in its two steps, ends where the plain store ends. -/
theorem entry_pair (K : Keyed P k) (ht : P.underlying t = some (.map k e)) {z : Value} (hz : ∀ u : World, (zeroValue e).run P u = .ok z u) (hb : w.heap[b]? = some (.map es clock)) (F : Fit P k R es clock)
    {key : Value} {kl : Lit} (hkey : keyOf P k key = some kl) {val : Value} (hup : (Instr.mapUpdate t (.map (some b)) key val).run P w = .ok () w') :
    ∃ (v0 : Value) (st : Nat) (W1 : World), (Instr.mapEntry t (.map (some b)) key).run P w = .ok (.tuple #[v0, goInt st]) W1 ∧ (Instr.entryStore t (.map (some b)) (goInt st) val).run P W1 = .ok () w' := by
  obtain ⟨born_lt, born_nd, _⟩ := F.stamped
  have one : ∀ (A : Array MapEntry) (c : Nat), (setBlock w b (.map A c)).heap[b]? = some (.map A c) := fun A c => heap_setBlock_same hb _
  have two : ∀ (A A' : Array MapEntry) (c c' : Nat), setBlock (setBlock w b (.map A c)) b (.map A' c') = setBlock w b (.map A' c') := fun A A' c c' => by simp [setBlock]
  rcases K.find w hkey es.toList F.keys with ⟨hf, hno⟩ | ⟨j, e0, hf, hj, hk⟩
  · have hw' : w' = setBlock w b (.map (es.push ⟨key, val, clock⟩) (clock + 1)) := by
      simp [Instr.mapUpdate, run_underlying ht, MapKept.run_getObj_map hb, K.check w false hkey, hf, MapKept.run_setObj_map _ hb, Result.andThen] at hup
      simpa [setBlock] using hup.symm
    refine ⟨z, clock, setBlock w b (.map (es.push ⟨key, z, clock⟩) (clock + 1)), ?_, ?_⟩
    · simp [Instr.mapEntry, run_underlying ht, MapKept.run_getObj_map hb, K.check w false hkey, hf, hz, MapKept.run_setObj_map _ hb, Result.andThen, setBlock]
    · have hi : (es.push ⟨key, z, clock⟩).findIdx? (fun x => ((x.born : Nat) : Int) == ((clock : Nat) : Int)) = some es.size := by
        rw [findIdx_arr]
        refine findIdx_born (l := (es.push ⟨key, z, clock⟩).toList) (j := es.size) (e0 := ⟨key, z, clock⟩) ?_ (by simp)
        rw [Array.toList_push, List.map_append]
        refine List.nodup_append.2 ⟨born_nd, by simp, ?_⟩
        intro a ha c hc hac
        obtain ⟨x, hx, rfl⟩ := List.mem_map.1 ha
        have h1 := born_lt x hx
        simp only [List.map_cons, List.map_nil, List.mem_singleton] at hc
        omega
      have hm : (es.push ⟨key, z, clock⟩).modify es.size (fun x => { x with val := val }) = es.push ⟨key, val, clock⟩ := by
        apply Array.ext'
        rw [Array.toList_modify, Array.toList_push, Array.toList_push, ← Array.length_toList, modify_last]
      have st : ∀ u : World, u.heap[b]? = some (.map (es.push ⟨key, z, clock⟩) (clock + 1)) → (Instr.entryStore t (.map (some b)) (goInt clock) val).run P u = .ok () (setBlock u b (.map (es.push ⟨key, val, clock⟩) (clock + 1))) := fun u hu => by
        simp [Instr.entryStore, MapKept.run_getObj_map hu, asInt, asIntOf, goInt, hi, hm, MapKept.run_setObj_map _ hu, Result.andThen, setBlock]
      rw [hw', ← two (es.push ⟨key, z, clock⟩) (es.push ⟨key, val, clock⟩) (clock + 1) (clock + 1)]
      exact st _ (one _ _)
  · have hje : es[j]? = some e0 := by simpa using hj
    have hw' : w' = setBlock w b (.map (es.modify j fun x => { x with key := key, val := val }) clock) := by
      simp [Instr.mapUpdate, run_underlying ht, MapKept.run_getObj_map hb, K.check w false hkey, hf, hje, hk, K.stays w hkey, MapKept.run_setObj_map _ hb, Result.andThen] at hup
      simpa [setBlock] using hup.symm
    have hself : es.modify j (fun x => { x with key := key }) = es := by
      apply Array.ext'
      rw [Array.toList_modify, modify_eq_set _ _ _ _ hj, show ({ e0 with key := key } : MapEntry) = e0 by rw [← hk]]
      exact set_self _ _ _ hj
    refine ⟨e0.val, e0.born, setBlock w b (.map es clock), ?_, ?_⟩
    · simp [Instr.mapEntry, run_underlying ht, MapKept.run_getObj_map hb, K.check w false hkey, hf, hje, hk, K.stays w hkey, hself, MapKept.run_setObj_map _ hb, Result.andThen, setBlock]
    · have hi : es.findIdx? (fun x => ((x.born : Nat) : Int) == ((e0.born : Nat) : Int)) = some j := by
        rw [findIdx_arr]; exact findIdx_born born_nd hj
      have hm : es.modify j (fun x => { x with val := val }) = es.modify j (fun x => { x with key := key, val := val }) := by
        apply Array.ext'
        rw [Array.toList_modify, Array.toList_modify, modify_eq_set _ _ _ _ hj, modify_eq_set _ _ _ _ hj, ← hk]
      have st : ∀ u : World, u.heap[b]? = some (.map es clock) → (Instr.entryStore t (.map (some b)) (goInt e0.born) val).run P u = .ok () (setBlock u b (.map (es.modify j fun x => { x with key := key, val := val }) clock)) := fun u hu => by
        simp [Instr.entryStore, MapKept.run_getObj_map hu, asInt, asIntOf, goInt, hi, hm, MapKept.run_setObj_map _ hu, Result.andThen, setBlock]
      rw [hw', ← two es (es.modify j fun x => { x with key := key, val := val }) clock clock]
      exact st _ (one _ _)
end

/-- Does the number fit an int? -/
def IsI64 (n : Int) : Prop := -9223372036854775808 ≤ n ∧ n ≤ 9223372036854775807
theorem IsI64.wf {n : Int} (h : IsI64 n) : (Lit.int .i64 n).wf = true := WalkArith.wf_i64 h
theorem keyed3 : Keyed Try.prog 3 := Maps.int_keyed Try.underlying3
theorem zero3 (w : World) : (zeroValue 3).run Try.prog w = .ok (.int .i64 0) w := by kernel_rfl
theorem key3 {n : Int} (h : IsI64 n) : keyOf Try.prog 3 (.int .i64 n) = some (.int .i64 n) := Maps.keyOf_int_mk Try.underlying3 h.wf

/-- The datum says just what the function says. -/
def Tells (D : DataW Unit) (f : Int → Option Nat) : Prop :=
  Maps.IsMap D ∧ ∀ n, IsI64 n → Maps.has D (.int .i64 n) = (f n).isSome ∧ ∀ i, f n = some i → ∀ z, D.atKey (.int .i64 n) z = .lit (.int .i64 (i : Nat))
/-- Block M of w is a map of at most N entries that gives each number its place. -/
def MapAt (w : World) (M : Nat) (N : Nat) (f : Int → Option Nat) : Prop :=
  ∃ D : DataW Unit, w.ownsMap Try.prog 3 (plainElem Try.prog 3) M N D ∧ Tells D f

theorem isKeyLit_int (n : Int) (h : IsI64 n) : WideAt.IsKeyLit (.int .i64 n) := keyed3.key (key3 h)
theorem lit_ne {m n : Int} (h : m ≠ n) : (Lit.int .i64 m) ≠ .int .i64 n := fun e => h (by cases e; rfl)

theorem Tells.put {D : DataW Unit} {f : Int → Option Nat} (h : Tells D f) {n : Int} (hn : IsI64 n) (i : Nat) : Tells (D.put (.int .i64 n) (.lit (.int .i64 (i : Nat)))) (upd f n (some i)) := by
  refine ⟨h.1.put _ _, fun m hm => ?_⟩
  by_cases e : m = n
  · subst e
    rw [upd_same]
    refine ⟨Maps.has_put_same h.1 (isKeyLit_int m hm) _, fun j hj z => ?_⟩
    cases hj
    exact Maps.atKey_put_same h.1 (isKeyLit_int m hm) _ z
  · rw [upd_other e]
    refine ⟨by rw [Maps.has_put_other (lit_ne e)]; exact (h.2 m hm).1, fun j hj z => ?_⟩
    rw [Maps.atKey_put_other (lit_ne e)]
    exact (h.2 m hm).2 j hj z
theorem Tells.del {D : DataW Unit} {f : Int → Option Nat} (h : Tells D f) {n : Int} : Tells (D.del (.int .i64 n)) (upd f n none) := by
  refine ⟨h.1.del _, fun m hm => ?_⟩
  by_cases e : m = n
  · subst e
    rw [upd_same]
    exact ⟨Maps.has_del_same, fun j hj => by cases hj⟩
  · rw [upd_other e]
    refine ⟨by rw [Maps.has_del_other (lit_ne e)]; exact (h.2 m hm).1, fun j hj z => ?_⟩
    rw [Maps.atKey_del_other (lit_ne e)]
    exact (h.2 m hm).2 j hj z


theorem MapAt.made (w : World) : MapAt (w.alloc (.map #[] 0)) w.heap.size 0 (fun _ => none) :=
  ⟨.map [], World.ownsMap_made w _ _ _, Maps.isMap_empty, fun n hn => ⟨rfl, fun i hi => by cases hi⟩⟩
theorem MapAt.kept {w w' : World} {M N : Nat} {f : Int → Option Nat} {row : Option Nat} (h : MapAt w M N f) (hg : w.grownBy w' row) (hne : some M ≠ row) : MapAt w' M N f := by
  obtain ⟨D, h1, h2⟩ := h
  exact ⟨D, h1.kept hg hne, h2⟩
theorem MapAt.lt {w : World} {M N : Nat} {f : Int → Option Nat} (h : MapAt w M N f) : M < w.heap.size := by
  obtain ⟨D, h1, _⟩ := h
  exact h1.lt
/-- v, ok := m[n]. -/
theorem MapAt.look {w : World} {M N : Nat} {f : Int → Option Nat} (h : MapAt w M N f) {n : Int} (hn : IsI64 n) :
    ∃ c : Int, (Instr.lookup 65 (.map (some M)) (.int .i64 n) true).run Try.prog w = .ok (.tuple #[.int .i64 c, .bool (f n).isSome]) w := by
  obtain ⟨D, h1, h2⟩ := h
  obtain ⟨v, ps, hrun, hv⟩ := h1.look_ok keyed3 Try.underlying65 (zero3 w) (plainElem_int Try.underlying3 (by decide)) (key3 hn)
  obtain ⟨c, rfl, _, _⟩ := plainElem_int_inv Try.underlying3 hv
  rw [(h2.2 n hn).1] at hrun
  exact ⟨c, hrun⟩
/-- m[n], where n is there. -/
theorem MapAt.get {w : World} {M N : Nat} {f : Int → Option Nat} (h : MapAt w M N f) {n : Int} (hn : IsI64 n) {i : Nat} (hi : f n = some i) :
    (Instr.lookup 65 (.map (some M)) (.int .i64 n) false).run Try.prog w = .ok (.int .i64 (i : Nat)) w := by
  obtain ⟨D, h1, h2⟩ := h
  obtain ⟨c, hrun, hat, _⟩ := h1.lookup_int keyed3 Try.underlying65 Try.underlying3 (zero3 w) (key3 hn)
  rw [(h2.2 n hn).2 i hi] at hat
  rw [hrun]
  simp only [DataW.lit.injEq, Lit.int.injEq, true_and] at hat
  rw [hat]
/-- The store of a tuple's assignment into the map, in its two steps. -/
theorem MapAt.put {w : World} {M N : Nat} {f : Int → Option Nat} (h : MapAt w M N f) (hN : N < maxLen) {n : Int} (hn : IsI64 n) {i : Nat} (hi : IsI64 (i : Nat)) :
    ∃ (v0 : Value) (st : Int) (W1 W2 : World), (Instr.mapEntry 65 (.map (some M)) (.int .i64 n)).run Try.prog w = .ok (.tuple #[v0, .int .i64 st]) W1 ∧
      (Instr.entryStore 65 (.map (some M)) (.int .i64 st) (.int .i64 (i : Nat))).run Try.prog W1 = .ok () W2 ∧ MapAt W2 M (N + 1) (upd f n (some i)) ∧ w.grownBy W2 (some M) := by
  obtain ⟨D, h1, h2⟩ := h
  obtain ⟨es, clock, hb, F, _, _⟩ := h1
  obtain ⟨W2, hrun, hown, hturn⟩ := World.ownsMap.store (t := 65) ⟨es, clock, hb, F, ‹_›, ‹_›⟩ keyed3 Try.underlying65 hN (key3 hn) (plainElem_int (q := .i64) Try.underlying3 hi.wf)
  obtain ⟨v0, st, W1, hm, hs⟩ := entry_pair keyed3 Try.underlying65 zero3 hb F (key3 hn) hrun
  exact ⟨v0, st, W1, W2, hm, hs, ⟨_, hown, h2.put hn i⟩, hturn.grown⟩
/-- delete(m, n). -/
theorem MapAt.drop {w : World} {M N : Nat} {f : Int → Option Nat} (h : MapAt w M N f) {n : Int} (hn : IsI64 n) (ty : TypeId) :
    ∃ W2, (Builtin.delete_ #[65, 3] ty #[.map (some M), .int .i64 n]).run Try.prog w = .ok (.tuple #[]) W2 ∧ MapAt W2 M N (upd f n none) ∧ w.grownBy W2 (some M) := by
  obtain ⟨D, h1, h2⟩ := h
  obtain ⟨W2, hrun, hown, hturn⟩ := h1.drop keyed3 Try.underlying65 (key3 hn) ty
  exact ⟨W2, hrun, ⟨_, hown, h2.del⟩, hturn.grown⟩
end Go.Proofs.Ytingoaklioplaaa
