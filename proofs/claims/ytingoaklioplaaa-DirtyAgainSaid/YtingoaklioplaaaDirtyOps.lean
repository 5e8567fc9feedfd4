/- The walks of the queue's Push, Pop, Remove, Has and Len, over what its blocks hold, and on no queue at all. Conditions: numbers fit an int; the sizes are small. -/
import Derived.Test.YtingoaklioplaaaDirtyTake
import Derived.Maps.AppendAt
namespace Go.Proofs.Ytingoaklioplaaa
open Go.RowKit
set_option linter.unusedVariables false

/-- A whole queue: its blocks, its places and its order. -/
structure Qu (Pr : Nat → Prop) (w : World) (Q M N : Nat) (F : Value) (t : Bool) (k : Nat) (S : Int → Bool) (hp : List Int) : Prop where
  ex : ∃ (sv : Value) (f : Int → Option Nat), QS Pr w Q M N F t sv hp f ∧ Exact hp f ∧ ∀ y, (f y).isSome = S y
  heap : Heap t hp
  len : hp.length = k
  bw : Old Pr w

theorem Try.info3 : (Try.prog.info? 3).map (fun i => (i.zero, i.size, i.bytes)) = some (some (.int .i64 0), 1, 8) := by kernel_rfl

theorem has_calls {Pr : Nat → Prop} {Q M N k : Nat} {w : World} {F : Value} {t : Bool} {S : Int → Bool} {hp : List Int} (h : Qu Pr w Q M N F t k S hp) {n : Int} (hn : IsI64 n) :
    Calls Try.prog 29 #[.pointer (some ⟨Q, 0, none⟩), .int .i64 n] w fun e w' => e = .returned (.bool (S n)) ∧ w = w' := by
  obtain ⟨sv, f, hQ, hE, hS⟩ := h.ex
  obtain ⟨c, hc⟩ := hQ.map.look hn
  rw [hS] at hc
  exact has_walk w Q M n c (S n) hQ.c2 hc
theorem len_calls {Pr : Nat → Prop} {Q M N k : Nat} {w : World} {F : Value} {t : Bool} {S : Int → Bool} {hp : List Int} (h : Qu Pr w Q M N F t k S hp) :
    Calls Try.prog 31 #[.pointer (some ⟨Q, 0, none⟩)] w fun e w' => e = .returned (.int .i64 (k : Nat)) ∧ w = w' := by
  obtain ⟨sv, f, hQ, hE, hS⟩ := h.ex
  have hk := h.len
  rcases hQ.own.2 with ⟨hs, h0⟩ | ⟨g, cap, cur, hs, _⟩
  · subst hs
    have := len_walk w Q 0 0 none hQ.c1
    rw [← hk, h0]; exact this
  · subst hs
    have := len_walk w Q hp.length cap _ hQ.c1
    rw [← hk]; exact this

/-- What Push leaves, where the number was not there. -/
def PushSays (Pr : Nat → Prop) (w : World) (Q M N : Nat) (F : Value) (t : Bool) (k : Nat) (S : Int → Bool) (n : Int) (e : Ending) (w' : World) : Prop :=
  ∃ (hp' : List Int) (N' : Nat), e = .returned (.bool true) ∧ Qu Pr w' Q M N' F t (k + 1) (fun y => decide (y = n) || S y) hp' ∧ N' ≤ N + k + 2 ∧ Keeps Pr w w'

theorem push_no {Pr : Nat → Prop} {Q M N k : Nat} {w : World} {F : Value} {t : Bool} {S : Int → Bool} {hp : List Int} (h : Qu Pr w Q M N F t k S hp) {n : Int} (hn : IsI64 n) (hS : S n = true) :
    Calls Try.prog 30 #[.pointer (some ⟨Q, 0, none⟩), .int .i64 n] w fun e w' => e = .returned (.bool false) ∧ w = w' := by
  have H := Lib.hid h
  have Hn := Lib.hid hn
  have HS := Lib.hid hS
  clear h hn hS
  go_enter Try.func30, Try.ntmps30
  go_wp2_with fail
  refine (has_calls H.out Hn.out).mono ?_
  rw [HS.out]
  rintro e w' ⟨rfl, rfl⟩
  go_wp2
  go_ret
  exact ⟨rfl, rfl⟩
theorem push_mid {Pr : Nat → Prop} {Q M N k : Nat} {w w1 : World} {F sv v' : Value} {t : Bool} {hp : List Int} {f : Int → Option Nat} {n : Int} {X : Obj} (h : QS Pr w Q M N F t sv hp f) (hBw : Old Pr w) (hk : hp.length = k) (hn : IsI64 n)
    (hown1 : w1.ownsRow 0 3 1 v' (k + 1) (hp.map (Value.int .i64) ++ [.int .i64 n])) (hg : (w.alloc X).grownBy w1 sv.ownBlock) (hat : v'.ownBlock = sv.ownBlock ∨ v'.ownBlock = some (w.alloc X).heap.size) :
    ∃ g' cap', v' = .slice (some ⟨g', 0, none⟩) (k + 1) cap' ∧ w1.cell? ⟨Q, 1, none⟩ = some sv ∧ w1.frozen? ⟨Q, 1, none⟩ = false ∧ QS Pr (w1.setCell ⟨Q, 1, none⟩ v') Q M N F t v' (hp ++ [n]) f ∧ Keeps Pr w (w1.setCell ⟨Q, 1, none⟩ v') := by
  have hQl : Q < w.heap.size := (Array.getElem?_eq_some_iff.1 h.blk).1
  have hb1 : w1.heap[Q]? = some (.cells #[F, sv, .map (some M)] 67 (0, 0)) := by
    rw [hg.block Q (by simp; omega) (fun e => h.row e.symm), Below.heap_alloc w X Q hQl]
    exact h.blk
  have hrow : ∀ g, sv.ownBlock = some g → ¬ Pr g := h.free
  have hB1 : Keeps Pr w w1 := ((Keeps.refl Pr w).alloc hBw X).grown hg (hBw.up (by simp)) hrow
  have hB2 : Keeps Pr w (w1.setCell ⟨Q, 1, none⟩ v') := hB1.setCell (p := ⟨Q, 1, none⟩) h.hQ _
  have hg2 : w1.grownBy (w1.setCell ⟨Q, 1, none⟩ v') (some Q) := ⟨rfl, rfl, rfl, by simp, fun k _ hk => Below.heap_setCell w1 ⟨Q, 1, none⟩ _ k (fun e => hk (by rw [e]))⟩
  have hMs : some M ≠ sv.ownBlock := by
    intro e
    rcases h.own.2 with ⟨hs, _⟩ | ⟨g, cap, cur, hs, _⟩
    · subst hs; cases e
    · subst hs; exact h.mg.1 (Option.some.inj e)
  have hm1 : MapAt w1 M N f := (h.map.kept (World.grownBy_alloc w X none) (fun e => by cases e)).kept hg hMs
  rcases hown1.2 with ⟨_, h0⟩ | ⟨g', cap', cur, rfl, hbg, hgc, _⟩
  · omega
  · have hgQ : g' ≠ Q := fun e => by
      rw [e, hb1] at hgc
      cases hgc
    refine ⟨g', cap', rfl, by rw [cell_of_row w1 Q 1 _ _ _ hb1]; rfl, frozen_of_row w1 Q 1 _ _ hb1, ⟨?_, ?_, hm1.kept hg2 (fun e => h.mq (Option.some.inj e).symm), h.hQ, h.hM, (fun e => hgQ (Option.some.inj e)), (fun k e hk => ?_), fun m hm => ?_, h.less.on hB2⟩, hB2⟩
    · rw [heap_setCell_same w1 Q 1 _ _ _ hb1]; rfl
    · rw [List.length_append, List.map_append, hk]
      exact hown1.kept hg2 (.inr (fun e => hgQ (Option.some.inj e)))
    · rcases hat with ha | ha
      · exact h.free k (ha ▸ e) hk
      · have := hBw k hk
        rw [ha, World.size_alloc] at e
        cases e
        omega
    · rcases List.mem_append.1 hm with hm | hm
      · exact h.wf m hm
      · simp at hm; subst hm; exact hn
theorem Heap.pushUp {t : Bool} {h : List Int} (H : Heap t h) (n : Int) : UpAt t (h ++ [n]) h.length false := by
  have g : ∀ j, j < h.length → (h ++ [n]).getD j 0 = h.getD j 0 := fun j hj => by
    rw [List.getD_eq_getElem?_getD, List.getD_eq_getElem?_getD, List.getElem?_append_left hj]
  refine ⟨fun j j0 jl jne _ => ?_, fun j j0 jl jp _ => ?_⟩
  · simp at jl
    rw [g j (by omega), g _ (by omega)]
    exact H j j0 (by omega)
  · simp at jl
    omega
theorem DownAt.whole {t : Bool} {h : List Int} {i : Nat} (H : DownAt t h i) (hi : h.length = i + 1) : Heap t h := H.done fun j hj jl => by omega
set_option maxHeartbeats 1000000 in
theorem push_yes {Pr : Nat → Prop} {Q M N k : Nat} {w : World} {F : Value} {t : Bool} {S : Int → Bool} {hp : List Int} (h : Qu Pr w Q M N F t k S hp) {n : Int} (hn : IsI64 n) (hS : S n = false) (hk : k ≤ 500) (hN : N ≤ 800000) :
    Calls Try.prog 30 #[.pointer (some ⟨Q, 0, none⟩), .int .i64 n] w (PushSays Pr w Q M N F t k S n) := by
  obtain ⟨i0, hi, hz0, hz1, hz2⟩ := info_parts Try.info3
  have H := Lib.hid h
  have Hn := Lib.hid hn
  have HS := Lib.hid hS
  obtain ⟨sv, f, hQ, hE, hf⟩ := h.ex
  have c1 := hQ.c1
  have hown := hQ.own
  have hBw := h.bw
  have hlen := h.len
  have HQ := Lib.hid hQ
  have HE := Lib.hid hE
  have Hf := Lib.hid hf
  clear h hn hS hQ hE hf
  rw [hlen] at hown
  have Hlen := Lib.hid hlen
  clear hlen
  go_enter Try.func30, Try.ntmps30
  go_wp2_with fail
  refine (has_calls H.out Hn.out).mono ?_
  rw [HS.out]
  rintro e w' ⟨rfl, rfl⟩
  have hlk : hp.length = k := Hlen.out
  have Hlk := Lib.hid hlk
  clear hlk
  go_wp2_with (at_builtin; refine wpList_append_own_at _ rfl _ _ 48 rfl 0 3 i0 (.int .i64 0) 1 8 Try.underlying48 hi hz0 hz1 hz2 rfl (by decide) _ _ _ rfl (hown.alloc _) ⟨w.heap.size, 0, none⟩ 1 1 [.int .i64 n] rfl rfl (cell_one_new _ _ _) (by simp [Value.oneCell']) (by unfold maxLen; omega) (by omega) (Nat.zero_le _) ?_; intro v' w1 hown1 hgrow1 _ hat1; obtain ⟨g', cap', rfl, x1, xf, hQ1, hB1⟩ := push_mid HQ.out H.out.bw Hlk.out Hn.out hown1 hgrow1 hat1; have HQ1 := Lib.hid hQ1; have HB1 := Lib.hid hB1; have HC := Lib.hid hQ1.c1; clear hown1 hgrow1 hat1 hQ1 hB1 hown; have x2 := HC.out)
  have hB2 : Hid (Old Pr (w1.setCell ⟨Q, 1, none⟩ (.slice (some ⟨g', 0, none⟩) (k + 1) cap'))) := Lib.hid (Old.up hBw HB1.out.size)
  have hfn : f n = none := by
    have h1 := Hf.out n
    rw [HS.out] at h1
    simpa using h1
  have HP := Lib.hid (HE.out.push hfn)
  have HU := Lib.hid (H.out.heap.pushUp n)
  rw [Hlk.out] at HP HU
  have hkl : (hp ++ [n]).length = k + 1 := by rw [List.length_append, Hlk.out]; rfl
  have Hkl := Lib.hid hkl
  have hget : (hp ++ [n]).getD k 0 = n := by rw [List.getD_eq_getElem?_getD, List.getElem?_append_right (by rw [Hlk.out]; omega), Hlk.out]; simp
  have Hget := Lib.hid hget
  clear hfn hkl hget
  refine (up_calls HQ1.out hB2.out k n (by rw [Hkl.out]; omega) Hget.out (by omega) (by rw [Hkl.out]; omega) S HP.out HU.out (fun m _ => Hf.out m)).mono ?_
  rintro e w2 ⟨m, sv5, h5, f5, N5, rfl, hQ5, hE5, hlen5, hdom5, hN5, hB5, hm1, hm0⟩
  rw [Hkl.out] at hlen5 hN5
  have hH5 : Heap t h5 := by
    cases m
    · obtain ⟨rfl, hD⟩ := hm0 rfl
      exact hD.whole Hkl.out
    · exact hm1 rfl
  have hBB := HB1.out.trans hB5
  have HX : Hid (PushSays Pr w Q M N F t k S n (.returned (.bool true)) w2) := Lib.hid ⟨h5, N5, rfl, ⟨⟨sv5, f5, hQ5, hE5, hdom5⟩, hH5, hlen5, Old.up hBw hBB.size⟩, by omega, hBB⟩
  clear hQ5 hE5 hlen5 hdom5 hN5 hB5 hm1 hm0 hH5 hBB
  go_wp2
  go_ret
  exact HX.out

/-- What Pop leaves. -/
def PopSays (Pr : Nat → Prop) (w : World) (Q M N : Nat) (F : Value) (t : Bool) (k : Nat) (S : Int → Bool) (n : Int) (e : Ending) (w' : World) : Prop :=
  ∃ (hp' : List Int) (N' : Nat), e = .returned (.tuple #[.int .i64 n, .bool true]) ∧ Qu Pr w' Q M N' F t k (fun y => !decide (y = n) && S y) hp' ∧ N' ≤ N + 2 * k + 5 ∧ Keeps Pr w w'
theorem pop_none {Pr : Nat → Prop} {Q M N : Nat} {w : World} {F : Value} {t : Bool} {S : Int → Bool} {hp : List Int} (h : Qu Pr w Q M N F t 0 S hp) :
    Calls Try.prog 27 #[.pointer (some ⟨Q, 0, none⟩)] w fun e w' => e = .returned (.tuple #[.int .i64 0, .bool false]) ∧ w = w' := by
  have H := Lib.hid h
  clear h
  go_enter Try.func27, Try.ntmps27
  go_wp2_with fail
  refine (len_calls H.out).mono ?_
  rintro e w' ⟨rfl, rfl⟩
  go_wp2
  go_ret2
  exact ⟨rfl, rfl⟩
set_option maxHeartbeats 1000000 in
theorem pop_some {Pr : Nat → Prop} {Q M N k : Nat} {w : World} {F : Value} {t : Bool} {S : Int → Bool} {hp : List Int} (h : Qu Pr w Q M N F t (k + 1) S hp) (hk : k ≤ 500) (hN : N ≤ 800000) :
    Calls Try.prog 27 #[.pointer (some ⟨Q, 0, none⟩)] w (PopSays Pr w Q M N F t k S (hp.getD 0 0)) := by
  have H := Lib.hid h
  obtain ⟨sv, f, hQ, hE, hf⟩ := h.ex
  have hlen := h.len
  obtain ⟨g, cap, rfl⟩ := hQ.slice (by omega)
  have c1 := hQ.c1
  have c0 := hQ.at rfl 0 (by omega)
  have HQ := Lib.hid hQ
  have HE := Lib.hid hE
  have Hf := Lib.hid hf
  have Hlen := Lib.hid hlen
  rw [hlen] at c1
  obtain ⟨n, hn⟩ : ∃ n, n = hp.getD 0 0 := ⟨_, rfl⟩
  rw [← hn] at c0 ⊢
  have Hn := Lib.hid hn
  have hz : (((k + 1 : Nat) : Int) == 0) = false := by rw [beq_eq_false_iff_ne]; omega
  have hz2 : ((k : Int) + 1 == 0) = false := by rw [beq_eq_false_iff_ne]; omega
  clear h hQ hE hf hlen hn
  go_enter Try.func27, Try.ntmps27
  go_wp2_with fail
  refine (len_calls H.out).mono ?_
  rintro e w' ⟨rfl, rfl⟩
  go_wp2_with fail
  refine (take_calls HQ.out H.out.bw 0 (by rw [Hlen.out]; omega) (by omega) (by rw [Hlen.out]; omega) HE.out H.out.heap).mono ?_
  rw [← Hn.out]
  rintro e w2 ⟨sv5, h5, f5, N5, rfl, hQ5, hE5, hlen5, hdom5, hN5, hB5, hH5⟩
  rw [Hlen.out] at hlen5 hN5
  have HX : Hid (PopSays Pr w Q M N F t k S n (.returned (.tuple #[.int .i64 n, .bool true])) w2) := Lib.hid ⟨h5, N5, rfl, ⟨⟨sv5, f5, hQ5, hE5, fun y => by rw [hdom5 y, Hf.out y]⟩, hH5, by omega, Old.up H.out.bw hB5.size⟩, by omega, hB5⟩
  clear hQ5 hE5 hlen5 hdom5 hN5 hB5 hH5
  go_wp2
  go_ret2
  exact HX.out

/-- What Remove leaves, where the number was there. -/
def RemSays (Pr : Nat → Prop) (w : World) (Q M N : Nat) (F : Value) (t : Bool) (k : Nat) (S : Int → Bool) (n : Int) (e : Ending) (w' : World) : Prop :=
  ∃ (hp' : List Int) (N' : Nat), e = .returned (.bool true) ∧ Qu Pr w' Q M N' F t k (fun y => !decide (y = n) && S y) hp' ∧ N' ≤ N + 2 * k + 5 ∧ Keeps Pr w w'
theorem rem_no {Pr : Nat → Prop} {Q M N k : Nat} {w : World} {F : Value} {t : Bool} {S : Int → Bool} {hp : List Int} (h : Qu Pr w Q M N F t k S hp) {n : Int} (hn : IsI64 n) (hS : S n = false) :
    Calls Try.prog 28 #[.pointer (some ⟨Q, 0, none⟩), .int .i64 n] w fun e w' => e = .returned (.bool false) ∧ w = w' := by
  have H := Lib.hid h
  have Hn := Lib.hid hn
  have HS := Lib.hid hS
  clear h hn hS
  go_enter Try.func28, Try.ntmps28
  go_wp2_with fail
  refine (has_calls H.out Hn.out).mono ?_
  rw [HS.out]
  rintro e w' ⟨rfl, rfl⟩
  go_wp2
  go_ret
  exact ⟨rfl, rfl⟩
set_option maxHeartbeats 1000000 in
theorem rem_yes {Pr : Nat → Prop} {Q M N k : Nat} {w : World} {F : Value} {t : Bool} {S : Int → Bool} {hp : List Int} (h : Qu Pr w Q M N F t (k + 1) S hp) {n : Int} (hn : IsI64 n) (hS : S n = true) (hk : k ≤ 500) (hN : N ≤ 800000) :
    Calls Try.prog 28 #[.pointer (some ⟨Q, 0, none⟩), .int .i64 n] w (RemSays Pr w Q M N F t k S n) := by
  have H := Lib.hid h
  have Hn := Lib.hid hn
  have HS := Lib.hid hS
  obtain ⟨sv, f, hQ, hE, hf⟩ := h.ex
  have hlen := h.len
  have c2 := hQ.c2
  have hsome := hf n
  rw [hS] at hsome
  obtain ⟨i, hi⟩ := Option.isSome_iff_exists.1 hsome
  have hget := hQ.map.get hn hi
  have hat := (hE n i).1 hi
  have hil : i < hp.length := (List.getElem?_eq_some_iff.1 hat).1
  have hin : hp.getD i 0 = n := by rw [List.getD_eq_getElem?_getD, hat]; rfl
  have HQ := Lib.hid hQ
  have HE := Lib.hid hE
  have Hf := Lib.hid hf
  have Hlen := Lib.hid hlen
  have Hin := Lib.hid hin
  have Hil := Lib.hid hil
  have hi5 : i ≤ 501 := by omega
  clear h hn hS hQ hE hf hlen hsome hi hat hil hin
  go_enter Try.func28, Try.ntmps28
  go_wp2_with fail
  refine (has_calls H.out Hn.out).mono ?_
  rw [HS.out]
  rintro e w' ⟨rfl, rfl⟩
  go_wp2_with fail
  refine (take_calls HQ.out H.out.bw i Hil.out (by omega) (by rw [Hlen.out]; omega) HE.out H.out.heap).mono ?_
  rw [Hin.out]
  rintro e w2 ⟨sv5, h5, f5, N5, rfl, hQ5, hE5, hlen5, hdom5, hN5, hB5, hH5⟩
  rw [Hlen.out] at hlen5 hN5
  have HX : Hid (RemSays Pr w Q M N F t k S n (.returned (.bool true)) w2) := Lib.hid ⟨h5, N5, rfl, ⟨⟨sv5, f5, hQ5, hE5, fun y => by rw [hdom5 y, Hf.out y]⟩, hH5, by omega, Old.up H.out.bw hB5.size⟩, by omega, hB5⟩
  clear hQ5 hE5 hlen5 hdom5 hN5 hB5 hH5
  go_wp2
  go_ret
  exact HX.out
end Go.Proofs.Ytingoaklioplaaa
