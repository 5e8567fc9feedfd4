/- What the two appends of a cut make of the laws' own slice. Conditions: those written. -/
import Derived.Test.YtingoaklioplaaaDirtyNil
import Derived.Maps.AppendAt
import Derived.Deep.RegionLaw
namespace Go.Proofs.Ytingoaklioplaaa
open Go.RowKit
set_option linter.unusedVariables false
theorem PS.capOk {Pr : Nat → Prop} {W w : World} {Q M N k g n cap : Nat} {t : Bool} {S : Int → Bool} {hp ml : List Int} (h : PS Pr W w Q M N t k S hp (.slice (some ⟨g, 0, none⟩) n cap) ml) : ml.length ≤ cap := by
  rcases h.own.2 with ⟨h1, _⟩ | ⟨g', cap', cur, hv, _, _, hc, _⟩
  · cases h1
  · cases hv; exact hc
/-- An append in a region that draws its order, by the run that is known of it. -/
theorem step_append_eq {P : Program} {w w' : World} {ops : Array Oper} {o : Oper} {a : Act} {K : Act → World → Prop} {Q : Exit → Act → World → Prop} {E : Prop} (hgd : o.guard = none) (s x : Operand) (t : TypeId)
    (ho : o.op = .call { callee := .builtin .append, args := #[s, x], argTypes := #[t, t] }) (v0 v1 v' : Value) (hs : a.eval s = v0) (hx : a.eval x = v1) (hr : (Builtin.append_ #[t, t] o.type #[v0, v1]).run P w = .ok v' w') (h : K (a.put o.dst v') w') :
    if Region.wanted o (yielded ops a.tmps) = true then Oper.wp P o a w K Q else E := by
  have hw : Region.wanted o (yielded ops a.tmps) = true := by simp [Region.wanted, hgd]
  rw [if_pos hw]
  unfold Oper.wp execOp
  simp only [ho, resolve, invoke, builtin, Sem.run_bind, Sem.run_pure, Result.andThen_ok, List.map_toArray, List.map_cons, List.map_nil, hs, hx, hr]
  exact h
/-- The slice without its j-th, as two appends make it. -/
theorem cut_run {Pr : Nat → Prop} {W w : World} {Q M N k g mc : Nat} {t : Bool} {S : Int → Bool} {hp ml : List Int} (h : PS Pr W w Q M N t k S hp (.slice (some ⟨g, 0, none⟩) ml.length mc) ml) {j : Nat} (hj : j < ml.length) (hlen : ml.length ≤ 1000) (ad : Addr) (had : ad = (if mc = j + 1 then ⟨g, 0, none⟩ else ⟨g, j + 1, none⟩)) :
    ∃ (v1 : Value) (w3 w4 : World) (Pr' : Nat → Prop) (ma4 : Option Addr) (mc4 : Nat), (Builtin.append_ #[48, 48] 48 #[.slice (some ⟨w.heap.size, 0, none⟩) 0 0, .slice (some ⟨g, 0, none⟩) j mc]).run Try.prog (w.alloc (.cells #[] 3)).drew = .ok v1 w3 ∧
      (Builtin.append_ #[48, 48] 48 #[v1, .slice (some ad) (ml.length - (j + 1)) (mc - (j + 1))]).run Try.prog w3 = .ok (.slice ma4 (ml.length - 1) mc4) w4 ∧ PS Pr' W w4 Q M N t k S hp (.slice ma4 (ml.length - 1) mc4) (ml.take j ++ ml.drop (j + 1)) := by
  obtain ⟨i0, hi, hz0, hz1, hz2⟩ := info_parts Try.info3
  have hgs : g < w.heap.size := (h.own.lt g rfl).2
  have hWs : W.heap.size + 1 ≤ w.heap.size := h.qu.bw _ (h.low W.heap.size (by omega))
  have hcell : ∀ x, x < ml.length → w.cell? ⟨g, x, none⟩ = some (.int .i64 (ml.getD x 0)) := fun x hx => h.at rfl x hx
  have hg0 : w.grownBy (w.alloc (.cells #[] 3)).drew none := ⟨rfl, rfl, rfl, by show w.heap.size ≤ (w.alloc (.cells #[] 3)).heap.size; simp, fun x hx _ => Below.heap_alloc w _ x hx⟩
  have hs0 : (w.alloc (.cells #[] 3)).drew.heap.size = w.heap.size + 1 := by show (w.alloc (.cells #[] 3)).heap.size = _; simp
  have hown0 : (w.alloc (.cells #[] 3)).drew.ownsRow (W.heap.size + 1) 3 1 (.slice (some ⟨w.heap.size, 0, none⟩) 0 0) 0 [] :=
    ⟨rfl, .inr ⟨w.heap.size, 0, #[], rfl, hWs, (MapKept.heap_alloc w _).1, Nat.le_refl _, Nat.zero_le _, rfl, rfl⟩⟩
  have hnews : ∀ (lo : Nat) (u : World), w.grownBy u none → ∀ (xs : List Int), (∀ x, x < xs.length → lo + x < ml.length ∧ xs.getD x 0 = ml.getD (lo + x) 0) → ∀ x v, (xs.map (Value.int .i64))[x]? = some v → u.cell? ((⟨g, lo, none⟩ : Addr).add x) = some v := by
    intro lo u hu xs hxs x v hv
    rw [List.getElem?_map] at hv
    rcases Nat.lt_or_ge x xs.length with hx | hx
    · rw [getD_of hx] at hv
      simp only [Option.map_some, Option.some.injEq] at hv
      obtain ⟨h1, h2⟩ := hxs x hx
      rw [← hv, h2]
      rw [Addr.add_lit]
      exact (World.cell?_of_block (w := w) (hu.block g hgs (fun e => by cases e))).trans (hcell _ h1)
    · rw [List.getElem?_eq_none hx] at hv; cases hv
  have hone : ∀ (xs : List Int), ∀ u ∈ xs.map (Value.int .i64), u.oneCell' = true := by
    intro xs u hu
    obtain ⟨x, _, rfl⟩ := List.mem_map.1 hu
    rfl
  have hlt : (ml.take j).length = j := by rw [List.length_take]; omega
  have hld : (ml.drop (j + 1)).length = ml.length - (j + 1) := List.length_drop
  obtain ⟨v1, w3, hr1, hown1, hgr1, hnil1, hat1⟩ := run_append_own_at (P := Try.prog) (w.alloc (.cells #[] 3)).drew (W.heap.size + 1) 48 48 3 i0 (.int .i64 0) 1 8 Try.underlying48 hi hz0 hz1 hz2 rfl (by decide)
    _ 0 [] hown0 ⟨g, 0, none⟩ j mc ((ml.take j).map (Value.int .i64)) (by rw [List.length_map, hlt]; omega) (hnews 0 _ hg0 _ (fun x hx => by
      rw [hlt] at hx
      exact ⟨by omega, by rw [take_getD _ _ _ hx, Nat.zero_add]⟩)) (hone _) (by unfold maxLen; omega) (by omega) (by rw [hs0]; omega)
  have hg1 : w.grownBy w3 none := ⟨hgr1.os, hgr1.tape, hgr1.output, Nat.le_trans hg0.size hgr1.size, fun x hx hne => (hgr1.block x (by rw [hs0]; omega) (fun e => by have h2 : x = w.heap.size := Option.some.inj e; omega)).trans (hg0.block x hx hne)⟩
  have hb1 : ∀ y, v1.ownBlock = some y → w.heap.size ≤ y ∧ y < w3.heap.size := fun y e => ⟨by
    rcases hat1 with ha | ha
    · rw [ha] at e; cases e; exact Nat.le_refl _
    · rw [ha, hs0] at e; cases e; omega, (hown1.lt y e).2⟩
  rw [Nat.zero_add, List.nil_append] at hown1
  obtain ⟨v2, w4, hr2, hown2, hgr2, hnil2, hat2⟩ := run_append_own_at (P := Try.prog) w3 (W.heap.size + 1) 48 48 3 i0 (.int .i64 0) 1 8 Try.underlying48 hi hz0 hz1 hz2 rfl (by decide)
    v1 j _ hown1 ad (ml.length - (j + 1)) (mc - (j + 1)) ((ml.drop (j + 1)).map (Value.int .i64)) (by rw [List.length_map, hld]; omega) (by
      by_cases e : mc = j + 1
      · have := h.capOk
        intro x v hv
        rw [List.drop_eq_nil_of_le (by omega)] at hv
        simp at hv
      · rw [had, if_neg e]
        exact hnews (j + 1) _ hg1 _ (fun x hx => by
          rw [hld] at hx
          exact ⟨by omega, by rw [List.getD_eq_getElem?_getD, List.getD_eq_getElem?_getD, List.getElem?_drop]⟩)) (hone _) (by unfold maxLen; omega) (by omega) (by have := hg1.size; omega)
  have hg2 : w.grownBy w4 none := ⟨hgr2.os.trans hg1.os, hgr2.tape.trans hg1.tape, hgr2.output.trans hg1.output, Nat.le_trans hg1.size hgr2.size, fun x hx hne => (hgr2.block x (Nat.lt_of_lt_of_le hx hg1.size) (fun e => by have := (hb1 x e.symm).1; omega)).trans (hg1.block x hx hne)⟩
  have hlen2 : j + (ml.length - (j + 1)) = ml.length - 1 := by omega
  rw [hlen2, ← List.map_append] at hown2
  have hlen3 : (ml.take j ++ ml.drop (j + 1)).length = ml.length - 1 := by rw [List.length_append, hlt, hld]; omega
  have hps := h.step (ml' := ml.take j ++ ml.drop (j + 1)) hg2 (fun g e => by cases e) (by rw [hlen3]; exact hown2) (fun y e => by
    right
    rcases hat2 with ha | ha
    · exact (hb1 y (ha ▸ e)).1
    · rw [ha] at e; cases e; exact hg1.size) (nodup_cut h.nd j) (fun y hy => h.wf y ((mem_cut h.nd hj y).1 hy).2)
  rcases hown2.2 with ⟨rfl, h0⟩ | ⟨g', cap', cur, rfl, _⟩
  · rw [h0] at *
    exact ⟨v1, w3, w4, _, none, 0, hr1, hr2, hps⟩
  · exact ⟨v1, w3, w4, _, _, cap', hr1, hr2, hps⟩
theorem cut_len {ml : List Int} {j : Nat} (hj : j < ml.length) : (ml.take j ++ ml.drop (j + 1)).length = ml.length - 1 := by rw [List.length_append, List.length_take, List.length_drop]; omega
theorem cut_mem {ml : List Int} (hnd : ml.Nodup) {j : Nat} (hj : j < ml.length) {n : Int} (hn : ml.getD j 0 = n) (y : Int) : (!decide (y = n) && decide (y ∈ ml)) = decide (y ∈ ml.take j ++ ml.drop (j + 1)) := by
  rw [Bool.eq_iff_iff]
  simp only [Bool.and_eq_true, Bool.not_eq_true', decide_eq_false_iff_not, decide_eq_true_eq, mem_cut hnd hj, hn]
end Go.Proofs.Ytingoaklioplaaa
