/- The walk of the queue's take, over what its blocks hold. Conditions: numbers fit an int; the sizes are small. -/
import Derived.Test.YtingoaklioplaaaDirtyDown
namespace Go.Proofs.Ytingoaklioplaaa
open Go.RowKit
set_option linter.unusedVariables false

theorem Exact.inj {h : List Int} {f : Int → Option Nat} (H : Exact h f) {i j : Nat} {n : Int} (hi : h[i]? = some n) (hj : h[j]? = some n) : i = j := by
  have h1 := (H n i).2 hi
  have h2 := (H n j).2 hj
  rw [h1] at h2
  exact Option.some.inj h2
theorem Exact.drop_places {h : List Int} {f : Int → Option Nat} (H : Exact h f) {i last : Nat} (hl : h.length = last + 1) (hi : i < last) :
    Places (h.take last) i (h.getD last 0) (upd f (h.getD i 0) none) := by
  have hx := getD_of (l := h) (i := i) (by omega)
  have hn := getD_of (l := h) (i := last) (by omega)
  refine ⟨fun m hm j => ?_, fun j hj e => ?_⟩
  · rw [List.getElem?_take]
    by_cases e : m = h.getD i 0
    · subst e
      rw [upd_same]
      constructor
      · intro e; cases e
      · rintro ⟨hj, e⟩
        split at e
        · exact absurd (H.inj e hx) hj
        · cases e
    · rw [upd_other e, H m j]
      constructor
      · intro e2
        have hjl : j < h.length := (List.getElem?_eq_some_iff.1 e2).1
        refine ⟨fun ej => ?_, ?_⟩
        · subst ej
          rw [hx] at e2
          exact e (Option.some.inj e2).symm
        · rw [if_pos]
          · exact e2
          · rcases Nat.lt_or_ge j last with h' | h'
            · exact h'
            · have : j = last := by omega
              subst this
              rw [hn] at e2
              exact absurd (Option.some.inj e2).symm hm
      · rintro ⟨hj, e2⟩
        split at e2
        · exact e2
        · cases e2
  · rw [List.getElem?_take] at e
    split at e
    · have := H.inj e hn
      omega
    · cases e
theorem Exact.drop_last {h : List Int} {f : Int → Option Nat} (H : Exact h f) {last : Nat} (hl : h.length = last + 1) : Exact (h.take last) (upd f (h.getD last 0) none) := fun m j => by
  have hn := getD_of (l := h) (i := last) (by omega)
  rw [List.getElem?_take]
  by_cases e : m = h.getD last 0
  · subst e
    rw [upd_same]
    constructor
    · intro e; cases e
    · intro e
      split at e
      · have := H.inj e hn; omega
      · cases e
  · rw [upd_other e, H m j]
    constructor
    · intro e2
      have hjl : j < h.length := (List.getElem?_eq_some_iff.1 e2).1
      rw [if_pos]
      · exact e2
      · rcases Nat.lt_or_ge j last with h' | h'
        · exact h'
        · have : j = last := by omega
          subst this
          rw [hn] at e2
          exact absurd (Option.some.inj e2).symm e
    · intro e2
      split at e2
      · exact e2
      · cases e2
theorem take_getD (h : List Int) (last j : Nat) (hj : j < last) : (h.take last).getD j 0 = h.getD j 0 := by
  rw [List.getD_eq_getElem?_getD, List.getD_eq_getElem?_getD, List.getElem?_take, if_pos hj]
theorem Heap.take {t : Bool} {h : List Int} (H : Heap t h) (last : Nat) : Heap t (h.take last) := fun j j0 jl => by
  rw [List.length_take] at jl
  rw [take_getD _ _ _ (by omega), take_getD _ _ _ (by omega)]
  exact H j j0 (by omega)
theorem Heap.upAt {t : Bool} {h : List Int} (H : Heap t h) {last i : Nat} (hl : h.length = last + 1) (hi : i < last) (n : Int) : UpAt t ((h.take last).set i n) i false := by
  have hlen : (h.take last).length = last := by rw [List.length_take]; omega
  have g := getD_set (h.take last) i (v := n) (h := by rw [hlen]; exact hi)
  refine ⟨fun j j0 jl jne hp => ?_, fun j j0 jl jp i0 => ?_⟩
  · rw [List.length_set, hlen] at jl
    have hp' : (j - 1) / 2 ≠ i := hp.resolve_left (fun e => by cases e)
    rw [g, g, if_neg hp', if_neg jne, take_getD _ _ _ (by omega), take_getD _ _ _ (by omega)]
    exact H j j0 (by omega)
  · rw [List.length_set, hlen] at jl
    rw [g, g, if_neg (by omega), if_neg (by omega), take_getD _ _ _ (by omega), take_getD _ _ _ (by omega)]
    have h1 := H j j0 (by omega)
    have h2 := H i i0 (by omega)
    rw [jp] at h1
    omega

theorem drewN_grown (w : World) (n : Nat) : w.grownBy (w.drewN n) none := ⟨rfl, rfl, rfl, Nat.le_refl _, fun _ _ _ => rfl⟩
theorem QS.turn {Pr : Nat → Prop} {Q M N N' : Nat} {w w' : World} {F sv : Value} {t : Bool} {hp : List Int} {f f' : Int → Option Nat} (h : QS Pr w Q M N F t sv hp f) (hBw : Old Pr w) (hm : MapAt w' M N' f') (hg : w.grownBy w' (some M)) :
    QS Pr w' Q M N' F t sv hp f' ∧ Keeps Pr w w' := by
  have hB2 : Keeps Pr w w' := (Keeps.refl Pr w).grown hg hBw (fun k e => by cases e; exact h.hM)
  refine ⟨⟨?_, ?_, hm, h.hQ, h.hM, h.row, h.free, h.wf, h.less.on hB2⟩, hB2⟩
  · rw [hg.block Q (Array.getElem?_eq_some_iff.1 h.blk).1 (fun e => h.mq (Option.some.inj e))]
    exact h.blk
  · rcases h.own.2 with ⟨rfl, h0⟩ | ⟨g, cap, cur, rfl, hrest⟩
    · exact h.own.kept hg (.inl rfl)
    · exact h.own.kept hg (.inr (fun e => h.mg.1 (Option.some.inj e).symm))
theorem QS.cutTail {Pr : Nat → Prop} {Q M N g cap last : Nat} {w : World} {F : Value} {t : Bool} {hp : List Int} {f : Int → Option Nat} (h : QS Pr w Q M N F t (.slice (some ⟨g, 0, none⟩) hp.length cap) hp f) (hl : hp.length = last + 1) :
    QS Pr (w.setCell ⟨Q, 1, none⟩ (.slice (some ⟨g, 0, none⟩) last cap)) Q M N F t (.slice (some ⟨g, 0, none⟩) last cap) (hp.take last) f ∧ Keeps Pr w (w.setCell ⟨Q, 1, none⟩ (.slice (some ⟨g, 0, none⟩) last cap)) := by
  have hB2 : Keeps Pr w (w.setCell ⟨Q, 1, none⟩ (.slice (some ⟨g, 0, none⟩) last cap)) := (Keeps.refl Pr w).setCell (p := ⟨Q, 1, none⟩) h.hQ _
  have hg2 : w.grownBy (w.setCell ⟨Q, 1, none⟩ (.slice (some ⟨g, 0, none⟩) last cap)) (some Q) := ⟨rfl, rfl, rfl, by simp, fun k _ hk => Below.heap_setCell w ⟨Q, 1, none⟩ _ k (fun e => hk (by rw [e]))⟩
  have hlen : (hp.take last).length = last := by rw [List.length_take]; omega
  refine ⟨⟨?_, ?_, h.map.kept hg2 (fun e => h.mq (Option.some.inj e).symm), h.hQ, h.hM, h.row, (fun k e => h.free k (by rw [hl]; exact e)), fun n hn => h.wf n (List.mem_of_mem_take hn), h.less.on hB2⟩, hB2⟩
  · rw [heap_setCell_same w Q 1 _ _ _ h.blk]; rfl
  · have hown := h.own
    rw [hl] at hown
    have hsplit : hp.map (Value.int .i64) = (hp.take last).map (Value.int .i64) ++ (hp.drop last).map (Value.int .i64) := by rw [← List.map_append, List.take_append_drop]
    rw [hsplit] at hown
    have := ownsRow_pop (n := last) (size := 1) (by rw [List.length_map, hlen]; omega) hown
    rw [hlen]
    exact this.kept hg2 (.inr (fun e => h.row (by rw [hl]; exact e)))

/-- What take leaves: all but the number at i. -/
def TakeSays (Pr : Nat → Prop) (w : World) (Q M N : Nat) (F : Value) (t : Bool) (hp : List Int) (f : Int → Option Nat) (x : Int) (e : Ending) (w' : World) : Prop :=
  ∃ (sv : Value) (h' : List Int) (f' : Int → Option Nat) (N' : Nat), e = .returned (.tuple #[]) ∧ QS Pr w' Q M N' F t sv h' f' ∧ Exact h' f' ∧ h'.length + 1 = hp.length ∧ (∀ y, (f' y).isSome = (!decide (y = x) && (f y).isSome)) ∧
    N' ≤ N + 2 * hp.length + 3 ∧ Keeps Pr w w' ∧ Heap t h'

theorem take_last {Pr : Nat → Prop} {Q M N i : Nat} {w w' : World} {F sv : Value} {t : Bool} {hp : List Int} {f : Int → Option Nat} {x : Int} (hl : hp.length = i + 1) (hx : x = hp.getD i 0) (hE : Exact hp f) (hH : Heap t hp)
    (hQ : QS Pr w' Q M N F t sv (hp.take i) (upd f x none)) (hB : Keeps Pr w w') : TakeSays Pr w Q M N F t hp f x (.returned (.tuple #[])) w' := by
  refine ⟨sv, _, _, N, rfl, hQ, by rw [hx]; exact hE.drop_last hl, by rw [List.length_take]; omega, fun y => ?_, by omega, hB, hH.take i⟩
  by_cases e : y = x
  · rw [e, upd_same]; simp
  · rw [upd_other e]; simp [e]
theorem take_dom {hp : List Int} {f : Int → Option Nat} {i last : Nat} {x n : Int} (hl : hp.length = last + 1) (hil : i < last) (hx : x = hp.getD i 0) (hn : n = hp.getD last 0) (hE : Exact hp f) (y : Int) :
    (decide (y = n) || (upd (upd f x none) n (some i) y).isSome) = (!decide (y = x) && (f y).isSome) := by
  have h1 := getD_of (l := hp) (i := i) (by omega)
  have h2 := getD_of (l := hp) (i := last) (by omega)
  rw [← hx] at h1
  rw [← hn] at h2
  have hxn : n ≠ x := fun e => by
    rw [e] at h2
    have := hE.inj h1 h2
    omega
  by_cases e : y = n
  · subst e
    rw [(hE y last).2 h2]
    simp [hxn]
  · rw [upd_other e]
    by_cases e2 : y = x
    · subst e2; rw [upd_same]; simp [e]
    · rw [upd_other e2]; simp [e, e2]
set_option maxHeartbeats 1000000 in
theorem take_calls {Pr : Nat → Prop} {Q M N : Nat} {w : World} {F sv : Value} {t : Bool} {hp : List Int} {f : Int → Option Nat} (h : QS Pr w Q M N F t sv hp f) (hBw : Old Pr w) (i : Nat) (hi : i < hp.length) (hN : N ≤ 900000) (hl : hp.length ≤ 1000) (hE : Exact hp f) (hH : Heap t hp) :
    Calls Try.prog 37 #[.pointer (some ⟨Q, 0, none⟩), .int .i64 (i : Nat)] w (TakeSays Pr w Q M N F t hp f (hp.getD i 0)) := by
  obtain ⟨g, cap, rfl⟩ := h.slice (by omega)
  obtain ⟨last, hlast⟩ : ∃ last, hp.length = last + 1 := ⟨hp.length - 1, by omega⟩
  have hcap : hp.length ≤ cap := by
    rcases h.own.2 with ⟨h0, _⟩ | ⟨g', cap', cur, hv, _, _, hc, _⟩
    · cases h0
    · cases hv; exact hc
  have c1 := h.c1
  have c2 := h.c2
  have ci := h.at rfl i hi
  have hwx := wf_getD h.wf hi
  obtain ⟨x, hx⟩ : ∃ x, x = hp.getD i 0 := ⟨_, rfl⟩
  obtain ⟨n, hn⟩ : ∃ n, n = hp.getD last 0 := ⟨_, rfl⟩
  have hwn := wf_getD (i := last) h.wf (by omega)
  rw [← hx] at ci hwx ⊢
  rw [← hn] at hwn
  obtain ⟨W2, hdel, hm2, hg2⟩ := (show MapAt w.drew M N f from h.map.kept (drewN_grown w 1) (fun e => by cases e)).drop hwx 0
  obtain ⟨hQ2, hB2⟩ := (h.drewN 1).turn hBw hm2 hg2
  have d1 := hQ2.c1
  have d2 := hQ2.c2
  have df := hQ2.fr 1
  have dn := hQ2.at rfl last (by omega)
  rw [← hn] at dn
  have hB02 : Keeps Pr w W2 := (below_dN (Keeps.refl Pr w) 1).trans hB2
  have hBW2 : Old Pr W2 := Old.up hBw hB02.size
  obtain ⟨hQ3, hB3⟩ := hQ2.cutTail hlast
  have HQ3 := Lib.hid hQ3
  have HB03 := Lib.hid (hB02.trans hB3)
  have HE := Lib.hid hE
  have HH := Lib.hid hH
  clear h hm2 hg2 hQ2 hB2 hB02 hQ3 hB3 hE hH
  have HL := Lib.hid hlast
  have Hx := Lib.hid hx
  have Hn := Lib.hid hn
  have Hwn := Lib.hid hwn
  have hlb : last ≤ 1000 := by omega
  have hi1 : i < last + 1 := by omega
  clear hx hn hwn hwx
  have hlen1 : hp.length - 1 = last := by omega
  have hli : (hp.length : Int) - 1 = last := by omega
  rw [hlast] at c1 d1 hcap hi
  clear hlast
  by_cases hil : i = last
  · subst hil
    have hbe : ((i : Int) == (i : Int)) = true := by simp
    go_enter Try.func37, Try.ntmps37
    go_wp2_with fail
    go_region
    all_goals
      go_wp2
      go_end0
      exact take_last HL.out Hx.out HE.out HH.out HQ3.out HB03.out
  · have hbe : ((i : Int) == (last : Int)) = false := by rw [beq_eq_false_iff_ne]; omega
    have hil2 : i < last := by omega
    have hlen1 : (hp.take last).length = last := by rw [List.length_take]; have := HL.out; omega
    have HL1 := Lib.hid hlen1
    have HP4 := Lib.hid (HE.out.drop_places HL.out hil2)
    have HU4 := Lib.hid (HH.out.upAt HL.out hil2 n)
    rw [← Hx.out, ← Hn.out] at HP4
    have hB3 : Hid (Old Pr (W2.setCell ⟨Q, 1, none⟩ (.slice (some ⟨g, 0, none⟩) last cap))) := Lib.hid (hBW2.up (by rw [World.size_setCell]; exact Nat.le_refl _))
    have Hset : Hid (((hp.take last).set i n).getD i 0 = n) := Lib.hid (by rw [getD_set _ _ _ _ (by omega), if_pos rfl])
    clear hlen1 hli hil
    go_enter Try.func37, Try.ntmps37
    go_wp2_with fail
    go_region
    all_goals
      go_wp2_with fail
      refine (put_calls HQ3.out hB3.out i n (by rw [HL1.out]; exact hil2) Hwn.out (by omega) (by rw [HL1.out]; omega)).mono ?_
      rintro e w4 ⟨rfl, hQ4, hB4⟩
      have HQ4 := Lib.hid hQ4
      have HB4 := Lib.hid hB4
      clear hQ4 hB4
      go_wp2_with fail
      refine (up_calls HQ4.out (Old.up hB3.out HB4.out.size) i n (by rw [List.length_set, HL1.out]; exact hil2) Hset.out (by omega) (by rw [List.length_set, HL1.out]; omega)
        (fun y => (upd (upd f x none) n (some i) y).isSome) ((HP4.out.done (by rw [HL1.out]; exact hil2)).places (by rw [getD_of (by rw [List.length_set, HL1.out]; exact hil2), Hset.out])) HU4.out (fun y _ => rfl)).mono ?_
      rintro e w5 ⟨m, sv5, h5, f5, N5, rfl, hQ5, hE5, hlen5, hdom5, hN5, hB5, hm1, hm0⟩
      rw [List.length_set, HL1.out] at hlen5 hN5
      have HE5 := Lib.hid hE5
      have HQ5 := Lib.hid hQ5
      have HB5 := Lib.hid hB5
      have HD5 := Lib.hid hdom5
      have HL5 := Lib.hid hlen5
      have HN5 := Lib.hid hN5
      cases m
      · obtain ⟨he5, hD⟩ := hm0 rfl
        have He5 := Lib.hid he5
        have HDn := Lib.hid hD
        clear hQ5 hE5 hlen5 hdom5 hN5 hB5 hm1 hm0 he5 hD
        go_wp2_with fail
        refine (down_calls HQ5.out (Old.up (Old.up hB3.out HB4.out.size) HB5.out.size) i n (by rw [HL5.out]; exact hil2) (by rw [He5.out]; exact Hset.out) (by have := HN5.out; omega) (by rw [HL5.out]; omega)
          (fun y => (f5 y).isSome) (HE5.out.places (by rw [getD_of (by rw [HL5.out]; exact hil2), He5.out, Hset.out])) (by rw [He5.out]; exact HDn.out) (fun y _ => rfl)).mono ?_
        rintro e w6 ⟨sv6, h6, f6, N6, rfl, hQ6, hE6, hlen6, hdom6, hN6, hB6, hH6⟩
        have HX : Hid (TakeSays Pr w Q M N F t hp f x (.returned (.tuple #[])) w6) := Lib.hid ⟨sv6, h6, f6, N6, rfl, hQ6, hE6, by rw [hlen6, HL5.out, HL.out], fun y => by
          rw [hdom6 y, ← take_dom HL.out hil2 Hx.out Hn.out HE.out y]
          show (decide (y = n) || (f5 y).isSome) = _
          rw [HD5.out y]
          cases decide (y = n) <;> simp, by have := HN5.out; have := HL5.out; have := HL.out; omega, ((HB03.out.trans HB4.out).trans HB5.out).trans hB6, hH6⟩
        clear hQ6 hE6 hlen6 hdom6 hN6 hB6 hH6
        go_wp2
        go_end0
        exact HX.out
      · have HH5 := Lib.hid (hm1 rfl)
        clear hQ5 hE5 hlen5 hdom5 hN5 hB5 hm1 hm0
        have HX : Hid (TakeSays Pr w Q M N F t hp f x (.returned (.tuple #[])) w5) := Lib.hid ⟨sv5, h5, f5, N5, rfl, HQ5.out, HE5.out, by rw [HL5.out, HL.out], fun y => by
          rw [HD5.out y, ← take_dom HL.out hil2 Hx.out Hn.out HE.out y], by have := HN5.out; have := HL.out; omega, (HB03.out.trans HB4.out).trans HB5.out, HH5.out⟩
        go_wp2
        go_end0
        exact HX.out
end Go.Proofs.Ytingoaklioplaaa
