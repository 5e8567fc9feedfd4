/- What the laws' own memory and the queue hold together: the queue, the model's slice, the boxed act. Conditions: numbers fit an int. -/
import Derived.Test.YtingoaklioplaaaDirtySpeaks
namespace Go.Proofs.Ytingoaklioplaaa
open Go.RowKit
set_option linter.unusedVariables false

/-- The chosen blocks, and all that were made between two worlds. -/
def Ext (Pr : Nat → Prop) (w w' : World) : Nat → Prop := fun k => Pr k ∨ (w.heap.size ≤ k ∧ k < w'.heap.size)
theorem Qu.law {Pr Pr' : Nat → Prop} {Q M N k : Nat} {w w' : World} {F : Value} {t : Bool} {S : Int → Bool} {hp : List Int} {row : Option Nat} (h : Qu Pr w Q M N F t k S hp) (hg : w.grownBy w' row) (hr : ∀ g, row = some g → Pr g)
    (hP : ∀ k, k < w.heap.size → Pr' k → Pr k) (hO : Old Pr' w') (hL : LessIs w' F t Pr') : Qu Pr' w' Q M N F t k S hp := by
  obtain ⟨⟨sv, f, hQ, hE, hS⟩, hH, hl, hb⟩ := h
  have hQl : Q < w.heap.size := (Array.getElem?_eq_some_iff.1 hQ.blk).1
  have hne : ∀ g, ¬ Pr g → some g ≠ row := fun g hg' e => hg' (hr g e.symm)
  have hMl : M < w.heap.size := hQ.map.lt
  refine ⟨⟨sv, f, ⟨?_, ?_, hQ.map.kept hg (hne M hQ.hM), fun h => hQ.hQ (hP Q hQl h), fun h => hQ.hM (hP M hMl h), hQ.row, fun g e h => hQ.free g e (hP g (hQ.own.lt g e).2 h), hQ.wf, hL⟩, hE, hS⟩, hH, hl, hO⟩
  · rw [hg.block Q hQl (hne Q hQ.hQ)]; exact hQ.blk
  · refine hQ.own.kept hg ?_
    cases hs : sv.ownBlock with
    | none => exact .inl rfl
    | some g => exact .inr (hne g (hQ.free g hs))
theorem own_keeps {Pr : Nat → Prop} {w w' : World} {base e size n : Nat} {v : Value} {xs : List Value} (h : w.ownsRow base e size v n xs) (hK : Keeps Pr w w') (hp : ∀ g, v.ownBlock = some g → Pr g) : w'.ownsRow base e size v n xs := by
  refine ⟨h.1, ?_⟩
  rcases h.2 with h0 | ⟨g, cap, cur, hv, hb, hg, hr⟩
  · exact .inl h0
  · exact .inr ⟨g, cap, cur, hv, hb, by rw [hK.block g (hp g (by rw [hv]; rfl))]; exact hg, hr⟩
theorem LessIs.more {Pr Pr' : Nat → Prop} {w w' : World} {F : Value} {t : Bool} (h : LessIs w F t Pr) (hc : ∀ tb, F = .func (.func 25) #[] #[.pointer (some ⟨tb, 0, none⟩)] → w'.cell? ⟨tb, 0, none⟩ = w.cell? ⟨tb, 0, none⟩) (hP : ∀ k, Pr k → Pr' k) : LessIs w' F t Pr' := by
  rcases h with h1 | ⟨tb, hF, hcell, hb⟩
  · exact .inl h1
  · exact .inr ⟨tb, hF, (hc tb hF).trans hcell, hP tb hb⟩

/-- The state of DirtyPlays: W is the world at its start, where the captured variable's block comes next. -/
structure PS (Pr : Nat → Prop) (W w : World) (Q M N : Nat) (t : Bool) (k : Nat) (S : Int → Bool) (hp : List Int) (mv : Value) (ml : List Int) : Prop where
  qu : Qu Pr w Q M N (.func (.func 25) #[] #[.pointer (some ⟨W.heap.size, 0, none⟩)]) t k S hp
  low : ∀ j, j < W.heap.size + 1 → Pr j
  own : w.ownsRow (W.heap.size + 1) 3 1 mv ml.length (ml.map (Value.int .i64))
  pr : ∀ g, mv.ownBlock = some g → Pr g
  bel : Below W.heap.size W w
  nd : ml.Nodup
  wf : ∀ y ∈ ml, IsI64 y

theorem PS.box {Pr : Nat → Prop} {W w : World} {Q M N k : Nat} {t : Bool} {S : Int → Bool} {hp ml : List Int} {mv : Value} (h : PS Pr W w Q M N t k S hp mv ml) : w.cell? ⟨W.heap.size, 0, none⟩ = some (.bool t) := by
  obtain ⟨sv, f, hQ, _⟩ := h.qu.ex
  rcases hQ.less with ⟨h1, _⟩ | ⟨tb, hF, hc, _⟩
  · cases h1
  · cases hF; exact hc
theorem PS.queue {Pr : Nat → Prop} {W w w' : World} {Q M N N' k k' : Nat} {t : Bool} {S S' : Int → Bool} {hp hp' ml : List Int} {mv : Value} (h : PS Pr W w Q M N t k S hp mv ml)
    (hq : Qu Pr w' Q M N' (.func (.func 25) #[] #[.pointer (some ⟨W.heap.size, 0, none⟩)]) t k' S' hp') (hK : Keeps Pr w w') : PS Pr W w' Q M N' t k' S' hp' mv ml :=
  ⟨hq, h.low, own_keeps h.own hK h.pr, h.pr, h.bel.trans (hK.below fun j hj => h.low j (by omega)), h.nd, h.wf⟩
theorem PS.step {Pr : Nat → Prop} {W w w' : World} {Q M N k : Nat} {t : Bool} {S : Int → Bool} {hp ml ml' : List Int} {mv mv' : Value} {row : Option Nat} (h : PS Pr W w Q M N t k S hp mv ml) (hg : w.grownBy w' row) (hr : ∀ g, row = some g → Pr g ∧ W.heap.size < g)
    (hown : w'.ownsRow (W.heap.size + 1) 3 1 mv' ml'.length (ml'.map (Value.int .i64))) (hat : ∀ g, mv'.ownBlock = some g → Pr g ∨ w.heap.size ≤ g) (hnd : ml'.Nodup) (hwf : ∀ y ∈ ml', IsI64 y) :
    PS (Ext Pr w w') W w' Q M N t k S hp mv' ml' := by
  have hl : W.heap.size < w.heap.size := h.qu.bw _ (h.low _ (by omega))
  refine ⟨h.qu.law hg (fun g e => (hr g e).1) (fun j hj hx => hx.elim id (fun x => absurd x.1 (by omega))) (fun j hx => hx.elim (fun x => Nat.lt_of_lt_of_le (h.qu.bw j x) hg.size) (fun x => x.2)) ?_, fun j hj => .inl (h.low j hj), hown, fun g e => ?_, h.bel.grown hg (by omega) (fun g e => by have := (hr g e).2; omega), hnd, hwf⟩
  · obtain ⟨sv, f, hQ, _⟩ := h.qu.ex
    refine hQ.less.more (fun tb hF => ?_) (fun j hj => .inl hj)
    cases hF
    exact World.cell?_of_block (w := w) (hg.block W.heap.size hl (fun e => absurd (hr _ e.symm).2 (Nat.lt_irrefl _)))
  · rcases hat g e with h1 | h1
    · exact .inl h1
    · exact .inr ⟨h1, (hown.lt g e).2⟩
theorem PS.grow {Pr : Nat → Prop} {W w w' : World} {Q M N k : Nat} {t : Bool} {S : Int → Bool} {hp ml : List Int} {mv : Value} (h : PS Pr W w Q M N t k S hp mv ml) (hg : w.grownBy w' none) : PS (Ext Pr w w') W w' Q M N t k S hp mv ml :=
  h.step hg (fun g e => by cases e) (h.own.kept hg (by cases hs : mv.ownBlock <;> simp)) (fun g e => .inl (h.pr g e)) h.nd h.wf
theorem PS.drewN {Pr : Nat → Prop} {W w : World} {Q M N k : Nat} {t : Bool} {S : Int → Bool} {hp ml : List Int} {mv : Value} (h : PS Pr W w Q M N t k S hp mv ml) (j : Nat) : PS Pr W (w.drewN j) Q M N t k S hp mv ml := by
  have hg := drewN_grown w j
  refine ⟨h.qu.law hg (fun g e => by cases e) (fun _ _ x => x) (fun i hi => h.qu.bw i hi) ?_, h.low, h.own.kept hg (by cases hs : mv.ownBlock <;> simp), h.pr, ⟨h.bel.os, h.bel.tape, h.bel.output, h.bel.size, h.bel.block⟩, h.nd, h.wf⟩
  obtain ⟨sv, f, hQ, _⟩ := h.qu.ex
  exact hQ.less.more (fun tb hF => rfl) (fun j hj => hj)
theorem PS.at {Pr : Nat → Prop} {W w : World} {Q M N k g n cap : Nat} {t : Bool} {S : Int → Bool} {hp ml : List Int} (h : PS Pr W w Q M N t k S hp (.slice (some ⟨g, 0, none⟩) n cap) ml) (hn : n = ml.length) (j : Nat) (hj : j < ml.length) :
    w.cell? ⟨g, j, none⟩ = some (.int .i64 (ml.getD j 0)) := by
  subst hn
  rw [h.own.cellAt j (by omega), List.getElem?_map, getD_of hj]; rfl
theorem PS.slice {Pr : Nat → Prop} {W w : World} {Q M N k : Nat} {t : Bool} {S : Int → Bool} {hp ml : List Int} {mv : Value} (h : PS Pr W w Q M N t k S hp mv ml) : (mv = .slice none 0 0 ∧ ml = []) ∨ ∃ g cap, mv = .slice (some ⟨g, 0, none⟩) ml.length cap ∧ ml.length ≤ cap := by
  rcases h.own.2 with ⟨h1, hn⟩ | ⟨g, cap, cur, rfl, _, _, hc, _⟩
  · exact .inl ⟨h1, List.eq_nil_of_length_eq_zero hn⟩
  · exact .inr ⟨g, cap, rfl, hc⟩

/-- Where the number stands among the first k. -/
def AtIs (ml : List Int) (n : Int) (k : Nat) (at' : Int) : Prop := (at' = -1 ∧ ∀ j, j < k → ml.getD j 0 ≠ n) ∨ ∃ j, j < k ∧ at' = (j : Int) ∧ ml.getD j 0 = n
theorem AtIs.zero (ml : List Int) (n : Int) : AtIs ml n 0 (-1) := .inl ⟨rfl, fun j hj => by omega⟩
theorem AtIs.hit {ml : List Int} {n : Int} {k : Nat} (h : ml.getD k 0 = n) : AtIs ml n (k + 1) (k : Int) := .inr ⟨k, by omega, rfl, h⟩
theorem AtIs.miss {ml : List Int} {n : Int} {k : Nat} {a : Int} (H : AtIs ml n k a) (h : ml.getD k 0 ≠ n) : AtIs ml n (k + 1) a := by
  rcases H with ⟨ha, hj⟩ | ⟨j, hj, ha, he⟩
  · exact .inl ⟨ha, fun j hj' => by
      rcases Nat.lt_or_ge j k with h1 | h1
      · exact hj j h1
      · obtain rfl : j = k := by omega
        exact h⟩
  · exact .inr ⟨j, by omega, ha, he⟩
theorem AtIs.none {ml : List Int} {n : Int} {a : Int} (H : AtIs ml n ml.length a) (h : n ∉ ml) : a = -1 := by
  rcases H with ⟨ha, _⟩ | ⟨j, hj, _, he⟩
  · exact ha
  · exact absurd (he ▸ List.mem_of_getElem? (getD_of hj)) h
theorem AtIs.some {ml : List Int} {n : Int} {a : Int} (H : AtIs ml n ml.length a) (h : n ∈ ml) : ∃ j, j < ml.length ∧ a = (j : Int) ∧ ml.getD j 0 = n := by
  rcases H with ⟨_, hj⟩ | H
  · obtain ⟨j, hjl, he⟩ := List.getElem_of_mem h
    exact absurd (by rw [List.getD_eq_getElem?_getD, List.getElem?_eq_getElem hjl, he]; rfl) (hj j hjl)
  · exact H
/-- Where the least one stands among the first k. -/
def LeastIs (t : Bool) (ml : List Int) (k : Nat) (v : Int) : Prop := (k = 0 ∧ v = -1) ∨ ∃ j, j < k ∧ v = (j : Int) ∧ ∀ i, i < k → kap t (ml.getD j 0) ≤ kap t (ml.getD i 0)
theorem LeastIs.first {t : Bool} {ml : List Int} : LeastIs t ml 1 ((0 : Nat) : Int) := by
  refine .inr ⟨0, by omega, rfl, fun i hi => ?_⟩
  obtain rfl : i = 0 := by omega
  exact Int.le_refl _
theorem LeastIs.lower {t : Bool} {ml : List Int} {k j : Nat} (H : LeastIs t ml k (j : Int)) (h : kap t (ml.getD k 0) < kap t (ml.getD j 0)) : LeastIs t ml (k + 1) (k : Int) := by
  rcases H with ⟨_, h1⟩ | ⟨j', hj, he, hm⟩
  · omega
  · obtain rfl : j = j' := by omega
    refine .inr ⟨k, by omega, rfl, fun i hi => ?_⟩
    by_cases e : i = k
    · subst e; exact Int.le_refl _
    · have := hm i (by omega); omega
theorem LeastIs.stay {t : Bool} {ml : List Int} {k j : Nat} (H : LeastIs t ml k (j : Int)) (h : ¬ kap t (ml.getD k 0) < kap t (ml.getD j 0)) : LeastIs t ml (k + 1) (j : Int) := by
  rcases H with ⟨_, h1⟩ | ⟨j', hj, he, hm⟩
  · omega
  · obtain rfl : j = j' := by omega
    refine .inr ⟨j, by omega, rfl, fun i hi => ?_⟩
    by_cases e : i = k
    · subst e; omega
    · exact hm i (by omega)

theorem mem_cut {ml : List Int} (hnd : ml.Nodup) {j : Nat} (hj : j < ml.length) (y : Int) : y ∈ ml.take j ++ ml.drop (j + 1) ↔ y ≠ ml.getD j 0 ∧ y ∈ ml := by
  have h1 : ml = ml.take j ++ ml.getD j 0 :: ml.drop (j + 1) := by
    have hd : ml.drop j = ml.getD j 0 :: ml.drop (j + 1) := by
      rw [List.drop_eq_getElem_cons hj, List.getD_eq_getElem?_getD, List.getElem?_eq_getElem hj]; rfl
    rw [← hd, List.take_append_drop]
  rw [h1] at hnd
  generalize ml.getD j 0 = x at *
  generalize ml.take j = a at *
  generalize ml.drop (j + 1) = b at *
  subst h1
  rw [List.nodup_append] at hnd
  obtain ⟨_, h2, h3⟩ := hnd
  rw [List.nodup_cons] at h2
  simp only [List.mem_append, List.mem_cons]
  constructor
  · rintro (h | h)
    · exact ⟨fun e => h3 y h x (by simp) e, .inl h⟩
    · exact ⟨fun e => h2.1 (e ▸ h), .inr (.inr h)⟩
  · rintro ⟨h, h' | h' | h'⟩
    · exact .inl h'
    · exact absurd h' h
    · exact .inr h'
theorem nodup_cut {ml : List Int} (hnd : ml.Nodup) (j : Nat) : (ml.take j ++ ml.drop (j + 1)).Nodup := by
  rw [← List.eraseIdx_eq_take_drop_succ]; exact hnd.eraseIdx j
theorem nodup_put {ml : List Int} (hnd : ml.Nodup) {n : Int} (h : n ∉ ml) : (ml ++ [n]).Nodup := by
  rw [List.nodup_append]
  refine ⟨hnd, by simp, fun a ha b hb e => ?_⟩
  simp at hb
  exact h (by rw [← hb, ← e]; exact ha)
end Go.Proofs.Ytingoaklioplaaa
