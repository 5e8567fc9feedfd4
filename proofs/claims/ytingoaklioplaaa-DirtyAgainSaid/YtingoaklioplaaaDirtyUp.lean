/- The walks of the queue's up and down, over what its blocks hold. Conditions: numbers fit an int; the sizes are small. -/
import Derived.Test.YtingoaklioplaaaDirtyQueue
namespace Go.Proofs.Ytingoaklioplaaa
open Go.RowKit
set_option linter.unusedVariables false

theorem QS.mq {Pr : Nat → Prop} {Q M N : Nat} {w : World} {F sv : Value} {t : Bool} {hp : List Int} {f : Int → Option Nat} (h : QS Pr w Q M N F t sv hp f) : Q ≠ M := by
  intro e
  obtain ⟨D, ⟨es, clock, hb, _⟩, _⟩ := h.map
  have := h.blk
  rw [e, hb] at this
  cases this
theorem QS.mg {Pr : Nat → Prop} {Q M N g n cap : Nat} {w : World} {F : Value} {t : Bool} {hp : List Int} {f : Int → Option Nat} (h : QS Pr w Q M N F t (.slice (some ⟨g, 0, none⟩) n cap) hp f) : M ≠ g ∧ Q ≠ g ∧ ¬ Pr g ∧ g < w.heap.size := by
  obtain ⟨D, ⟨es, clock, hb, _⟩, _⟩ := h.map
  refine ⟨fun e => ?_, fun e => h.row (by rw [e]; rfl), h.free g rfl, (h.own.lt g rfl).2⟩
  rcases h.own.2 with ⟨h0, _⟩ | ⟨g', cap', cur, hv, _, hg, _⟩
  · cases h0
  · cases hv
    rw [← e, hb] at hg
    cases hg
theorem QS.slice {Pr : Nat → Prop} {Q M N : Nat} {w : World} {F sv : Value} {t : Bool} {hp : List Int} {f : Int → Option Nat} (h : QS Pr w Q M N F t sv hp f) (h0 : 0 < hp.length) : ∃ g cap, sv = .slice (some ⟨g, 0, none⟩) hp.length cap := by
  rcases h.own.2 with ⟨_, hn⟩ | ⟨g, cap, cur, rfl, _⟩
  · omega
  · exact ⟨g, cap, rfl⟩
theorem LessIs.on {w w' : World} {F : Value} {t : Bool} {Pr : Nat → Prop} (h : LessIs w F t Pr) (hB : Keeps Pr w w') : LessIs w' F t Pr := by
  rcases h with h | ⟨tb, hF, hc, hb⟩
  · exact .inl h
  · exact .inr ⟨tb, hF, (hB.cell (p := ⟨tb, 0, none⟩) hb).trans hc, hb⟩
theorem QS.at {Pr : Nat → Prop} {Q M N g n cap : Nat} {w : World} {F : Value} {t : Bool} {hp : List Int} {f : Int → Option Nat} (h : QS Pr w Q M N F t (.slice (some ⟨g, 0, none⟩) n cap) hp f) (hn : n = hp.length) (j : Nat) (hj : j < hp.length) :
    w.cell? ⟨g, j, none⟩ = some (.int .i64 (hp.getD j 0)) := by
  subst hn
  rw [h.own.cellAt j (by omega), List.getElem?_map, getD_of hj]; rfl
theorem QS.frAt {Pr : Nat → Prop} {Q M N g n cap : Nat} {w : World} {F : Value} {t : Bool} {hp : List Int} {f : Int → Option Nat} (h : QS Pr w Q M N F t (.slice (some ⟨g, 0, none⟩) n cap) hp f) (hn : n = hp.length) (j : Nat) : w.frozen? ⟨g, j, none⟩ = false := by
  subst hn
  exact h.own.frozenAt j
theorem wf_set {l : List Int} {i : Nat} {n : Int} (h : ∀ m ∈ l, IsI64 m) (hn : IsI64 n) : ∀ m ∈ l.set i n, IsI64 m := fun m hm => by
  rcases List.mem_or_eq_of_mem_set hm with h' | h'
  · exact h m h'
  · rw [h']; exact hn
theorem wf_getD {l : List Int} {i : Nat} (h : ∀ m ∈ l, IsI64 m) (hi : i < l.length) : IsI64 (l.getD i 0) := h _ (List.mem_of_getElem? (getD_of hi))

/-- What put leaves. -/
def PutSays (Pr : Nat → Prop) (w : World) (Q M N : Nat) (F : Value) (t : Bool) (sv : Value) (hp : List Int) (f : Int → Option Nat) (e : Ending) (w' : World) : Prop :=
  e = .returned (.tuple #[]) ∧ QS Pr w' Q M (N + 1) F t sv hp f ∧ Keeps Pr w w'
theorem put_calls {Pr : Nat → Prop} {Q M N : Nat} {w : World} {F sv : Value} {t : Bool} {hp : List Int} {f : Int → Option Nat} (h : QS Pr w Q M N F t sv hp f) (hBw : Old Pr w) (i : Nat) (n : Int) (hi : i < hp.length) (hn : IsI64 n) (hN : N ≤ 1000000000) (hl : hp.length ≤ 1000000) :
    Calls Try.prog 39 #[.pointer (some ⟨Q, 0, none⟩), .int .i64 (i : Nat), .int .i64 n] w (PutSays Pr w Q M N F t sv (hp.set i n) (upd f n (some i))) := by
  obtain ⟨g, cap, rfl⟩ := h.slice (by omega)
  obtain ⟨hMg, hQg, hBg, hgs⟩ := h.mg
  have hst := h.own.stored i (.int .i64 n)
  have hm1 : MapAt (w.setCell ⟨g, i, none⟩ (.int .i64 n)).drew M N f := by
    have := h.map.kept hst.2 (fun e => hMg (Option.some.inj e))
    exact this
  obtain ⟨v0, st, W1, W2, hr1, hr2, hm2, hg2⟩ := hm1.put (by unfold maxLen; omega) hn (i := i) ⟨by omega, by omega⟩
  refine (put_walk w W1 W2 Q g M F v0 _ i hp.length cap n st hi (by omega) h.c1 h.c2 (h.at rfl i hi) (h.frAt rfl i) hr1 hr2).mono ?_
  rintro e w' ⟨rfl, rfl⟩
  have hB1 : Keeps Pr w (w.setCell ⟨g, i, none⟩ (.int .i64 n)).drew := ((Keeps.refl Pr w).setCell (p := ⟨g, i, none⟩) hBg _).drew
  have hB2 : Keeps Pr w w' := hB1.grown hg2 (hBw.up (by show w.heap.size ≤ (w.setCell ⟨g, i, none⟩ (.int .i64 n)).heap.size; rw [World.size_setCell]; exact Nat.le_refl _)) (fun k e => by cases e; exact h.hM)
  refine ⟨rfl, ⟨?_, ?_, hm2, h.hQ, h.hM, h.row, h.free, wf_set h.wf hn, h.less.on hB2⟩, hB2⟩
  · have hlt : Q < (w.setCell ⟨g, i, none⟩ (.int .i64 n)).drew.heap.size := by
      show Q < (w.setCell ⟨g, i, none⟩ (.int .i64 n)).heap.size
      rw [World.size_setCell]; exact (Array.getElem?_eq_some_iff.1 h.blk).1
    rw [hg2.block Q hlt (fun e => h.mq (Option.some.inj e))]
    show (w.setCell ⟨g, i, none⟩ (.int .i64 n)).heap[Q]? = _
    rw [Below.heap_setCell w ⟨g, i, none⟩ _ Q hQg]
    exact h.blk
  · have h1 := hst.1
    rw [show (Value.int IntKind.i64 n) = (fun x => Value.int IntKind.i64 x) n from rfl, ← List.map_set] at h1
    rw [List.length_set]
    exact World.ownsRow.kept (w := (w.setCell ⟨g, i, none⟩ (.int .i64 n)).drew) h1 hg2 (.inr (fun e => hMg (Option.some.inj e).symm))

theorem quiet_same {P : Program} {f : FuncId} {args : Array Value} {w : World} {n : Nat} {v : Value}
    (h : Calls P f args (w.drewN n) fun e w' => e = .returned v ∧ w.drewN n = w') : Calls P f args (w.drewN n) fun e w'' => e = .returned v ∧ ∃ m, w'' = w.drewN m :=
  h.mono fun _ _ ⟨he, hm⟩ => ⟨he, n, hm.symm⟩
theorem less1 {a b : Int} {t v : Bool} (ht : t = false) (h : ltB t a b = v) (w : World) : Calls Try.prog 36 #[.int .i64 a, .int .i64 b] w fun e w' => e = .returned (.bool v) ∧ w = w' := by
  rw [← h, ht]; exact new1_calls a b w
theorem less2 {a b : Int} {t v : Bool} (h : ltB t a b = v) {tb : Nat} {w : World} (hc : w.cell? ⟨tb, 0, none⟩ = some (.bool t)) : Calls Try.prog 25 #[.int .i64 a, .int .i64 b, .pointer (some ⟨tb, 0, none⟩)] w fun e w' => e = .returned (.bool v) ∧ w = w' := by
  rw [← h]; exact play1_calls a b t tb w hc
theorem QS.keep {Pr : Nat → Prop} {Q M N : Nat} {w w' : World} {F sv : Value} {t : Bool} {hp : List Int} {f : Int → Option Nat} (h : QS Pr w Q M N F t sv hp f) (hg : w.grownBy w' none) : QS Pr w' Q M N F t sv hp f :=
  ⟨by rw [hg.block Q (Array.getElem?_eq_some_iff.1 h.blk).1 (fun e => by cases e)]; exact h.blk, h.own.kept hg (by cases hs : sv.ownBlock <;> simp), h.map.kept hg (fun e => by cases e), h.hQ, h.hM, h.row, h.free, h.wf, by
    rcases h.less with h1 | ⟨tb, hF, hc, hb⟩
    · exact .inl h1
    · exact .inr ⟨tb, hF, hg.cell hc (fun e => by cases e), hb⟩⟩
theorem QS.drewN {Pr : Nat → Prop} {Q M N : Nat} {w : World} {F sv : Value} {t : Bool} {hp : List Int} {f : Int → Option Nat} (h : QS Pr w Q M N F t sv hp f) (k : Nat) : QS Pr (w.drewN k) Q M N F t sv hp f :=
  h.keep ⟨rfl, rfl, rfl, Nat.le_refl _, fun _ _ _ => rfl⟩
theorem below_dN {Pr : Nat → Prop} {a w : World} (h : Keeps Pr a w) (k : Nat) : Keeps Pr a (w.drewN k) := ⟨h.os, h.tape, h.output, h.size, h.block⟩

/-- What up leaves: the places are exact; where it moved the heap is in order, else it is as it was. -/
def UpSays (Pr : Nat → Prop) (w : World) (Q M N : Nat) (F : Value) (t : Bool) (hp : List Int) (i : Nat) (n : Int) (S : Int → Bool) (e : Ending) (w' : World) : Prop :=
  ∃ (m : Bool) (sv : Value) (h' : List Int) (f' : Int → Option Nat) (N' : Nat), e = .returned (.bool m) ∧ QS Pr w' Q M N' F t sv h' f' ∧ Exact h' f' ∧ h'.length = hp.length ∧ (∀ x, (f' x).isSome = (decide (x = n) || S x)) ∧
    N' ≤ N + hp.length + 1 ∧ Keeps Pr w w' ∧ (m = true → Heap t h') ∧ (m = false → h' = hp ∧ DownAt t hp i)

/-- The loop of up, at its head. -/
def UpLoop (Pr : Nat → Prop) (w : World) (Q M N : Nat) (F : Value) (t : Bool) (g cap : Nat) (hp : List Int) (i : Nat) (n : Int) (S : Int → Bool) (k : Nat) (wr : World) : Prop :=
  ∃ (h' : List Int) (f' : Int → Option Nat) (N' : Nat) (m : Bool), k ≤ i ∧ (m = false → k = i ∧ h' = hp) ∧ (m = true → k < i) ∧ h'.length = hp.length ∧ QS Pr wr Q M N' F t (.slice (some ⟨g, 0, none⟩) hp.length cap) h' f' ∧ Places h' k n f' ∧ UpAt t (h'.set k n) k m ∧ Dom f' n S ∧
    N' + k ≤ N + i ∧ Keeps Pr w wr

theorem up_step {Pr : Nat → Prop} {Q M N N' : Nat} {w wr w' : World} {F : Value} {t m : Bool} {g cap : Nat} {hp h' : List Int} {f' : Int → Option Nat} {i k : Nat} {n v : Int} {S : Int → Bool}
    (hk1 : 1 ≤ k) (hki : k ≤ i) (hkl : k < h'.length) (hlen : h'.length = hp.length) (hP : Places h' k n f') (hU : UpAt t (h'.set k n) k m) (hD : Dom f' n S) (hN' : N' + k ≤ N + i) (hB : Keeps Pr w wr)
    (hv : v = h'.getD ((k - 1) / 2) 0) (hlt : kap t n < kap t v) {nq : Nat} (hQ : QS Pr w' Q M (N' + 1) F t (.slice (some ⟨g, 0, none⟩) hp.length cap) (h'.set k v) (upd f' v (some k))) (hB' : Keeps Pr (wr.drewN nq) w') :
    UpLoop Pr w Q M N F t g cap hp i n S ((k - 1) / 2) w' := by
  subst hv
  have hp1 : (k - 1) / 2 < h'.length := by omega
  obtain ⟨p1, p2, p3⟩ := hP.step hkl hp1 (by omega)
  exact ⟨_, _, N' + 1, true, by omega, (fun e => (by cases e)), (fun _ => by omega), by rw [List.length_set]; exact hlen, hQ, p1, hU.step hk1 hkl hlt, hD.step p2 p3, by omega, (below_dN hB nq).trans hB'⟩
theorem up_end {Pr : Nat → Prop} {Q M N N' : Nat} {w wr w' : World} {F sv : Value} {t m : Bool} {hp h' : List Int} {f' : Int → Option Nat} {i k : Nat} {n : Int} {S : Int → Bool}
    (hin : hp.getD i 0 = n) (hki : k ≤ i) (hm0 : m = false → k = i ∧ h' = hp) (hm1 : m = true → k < i) (hkl : k < h'.length) (hlen : h'.length = hp.length) (hP : Places h' k n f') (hU : UpAt t (h'.set k n) k m) (hD : Dom f' n S) (hN' : N' + k ≤ N + i) (hi : i < hp.length) (hB : Keeps Pr w wr)
    (hstop : k = 0 ∨ ¬ kap t n < kap t (h'.getD ((k - 1) / 2) 0)) {nq : Nat} (hQ : QS Pr w' Q M (N' + 1) F t sv (h'.set k n) (upd f' n (some k))) (hB' : Keeps Pr (wr.drewN nq) w') :
    UpSays Pr w Q M N F t hp i n S (.returned (.bool m)) w' := by
  have hg := getD_set h' k (v := n) (h := hkl)
  have hs : k = 0 ∨ kap t ((h'.set k n).getD ((k - 1) / 2) 0) ≤ kap t ((h'.set k n).getD k 0) := by
    by_cases h0 : k = 0
    · exact .inl h0
    · right
      rw [hg, hg, if_neg (by omega), if_pos rfl]
      rcases hstop with h | h <;> omega
  refine ⟨m, sv, _, _, N' + 1, rfl, hQ, hP.done hkl, by rw [List.length_set]; exact hlen, fun x => hD.done x, by omega, (below_dN hB nq).trans hB', fun hm => ?_, fun hm => ?_⟩
  · subst hm; exact hU.done_moved hs
  · obtain ⟨rfl, rfl⟩ := hm0 hm
    subst hm
    have e : h'.set k n = h' := by rw [← hin]; exact set_getD h' k
    rw [e] at hs hU ⊢
    exact ⟨rfl, hU.done_still hs⟩
theorem moved_is {k i : Nat} {m : Bool} (hki : k ≤ i) (hm0 : m = false → k = i) (hm1 : m = true → k < i) : ((k : Int) != (i : Int)) = m := by
  cases m
  · rw [hm0 rfl]; simp
  · have := hm1 rfl
    rw [bne_iff_ne]; omega

set_option maxHeartbeats 1000000 in
theorem up_calls {Pr : Nat → Prop} {Q M N : Nat} {w : World} {F sv : Value} {t : Bool} {hp : List Int} {f : Int → Option Nat} (h : QS Pr w Q M N F t sv hp f) (hBw : Old Pr w) (i : Nat) (n : Int) (hi : i < hp.length) (hin : hp.getD i 0 = n) (hN : N ≤ 1000000) (hl : hp.length ≤ 1000000)
    (S : Int → Bool) (hP : Places hp i n f) (hU : UpAt t hp i false) (hD : Dom f n S) :
    Calls Try.prog 38 #[.pointer (some ⟨Q, 0, none⟩), .int .i64 (i : Nat)] w (UpSays Pr w Q M N F t hp i n S) := by
  obtain ⟨g, cap, rfl⟩ := h.slice (by omega)
  have hset : hp.set i n = hp := by rw [← hin]; exact set_getD hp i
  have hn : IsI64 n := by rw [← hin]; exact wf_getD h.wf hi
  have c0 := h.c0
  have c1 := h.c1
  have ci := h.at rfl i hi
  rw [hin] at ci
  have HL : Hid (UpLoop Pr w Q M N F t g cap hp i n S i w) := Lib.hid ⟨hp, f, N, false, Nat.le_refl _, fun _ => ⟨rfl, rfl⟩, (fun e => (by cases e)), rfl, h, hP, by rw [hset]; exact hU, hD, Nat.le_refl _, Keeps.refl _ _⟩
  have HW := Lib.hid hn
  have HBw := Lib.hid hBw
  have Hhin := Lib.hid hin
  have hless := Lib.hid h.less
  clear hin hset hn hP hU hD h hBw
  go_enter Try.func38, Try.ntmps38
  go_wp2
  clear c0 c1 ci
  go_loopw [1] (fun c wr => ∃ k : Nat, c = .int .i64 k ∧ k ≤ 1000000 ∧ Hid (UpLoop Pr w Q M N F t g cap hp i n S k wr)) (fun c _ => (intOf c).toNat)
  case atStart => exact ⟨i, rfl, by omega, HL⟩
  case round =>
    obtain ⟨k, rfl, hk2, HLk⟩ := hrel
    obtain ⟨h', f', N', m, hki, hm0, hm1, hlen, hQ, hP, hU, hD, hN', hB⟩ := HLk.out
    have c0 := hQ.c0
    have c1 := hQ.c1
    have hkl : k < h'.length := by omega
    have hBr : Old Pr wr := Old.up HBw.out hB.size
    have HQ := Lib.hid hQ
    have HP := Lib.hid hP
    have HU := Lib.hid hU
    have HD := Lib.hid hD
    have HB := Lib.hid hB
    have HM := Lib.hid (And.intro hm0 hm1)
    have HLN := Lib.hid hlen
    have hkm := moved_is hki (fun e => (hm0 e).1) hm1
    have HKM := Lib.hid hkm
    have hN2 : N' ≤ 1000000000 := by omega
    have hl1 : h'.length ≤ 1000000 := by omega
    by_cases hk0 : k = 0
    · subst hk0
      clear hQ hP hU hD hB hm0 hm1 hlen hkm
      have hgt : decide ((0 : Int) < ((0 : Nat) : Int)) = false := by decide
      go_wp2_with fail
      go_quiet (fail)
      go_wp2_with fail
      refine (put_calls (HQ.out.drewN nq) hBr 0 n hkl HW.out hN2 hl1).mono ?_
      rintro e w' ⟨rfl, hQ', hB'⟩
      have hx := up_end (sv := .slice (some ⟨g, 0, none⟩) hp.length cap) Hhin.out hki HM.out.1 HM.out.2 hkl HLN.out HP.out HU.out HD.out hN' hi HB.out (.inl rfl) hQ' hB'
      rw [← HKM.out] at hx
      have HX := Lib.hid hx
      clear hQ' hB' hx
      go_wp2
      go_ret
      exact HX.out
    · have hp1 : (k - 1) / 2 < h'.length := by omega
      have cp := hQ.at hlen.symm ((k - 1) / 2) hp1
      have hgt : decide ((0 : Int) < (k : Int)) = true := by simp; omega
      have hgn : decide (0 < k) = true := decide_eq_true (by omega)
      have hl2 : (k - 1) / 2 < hp.length := by omega
      have hk1 : 1 ≤ k := by omega
      have hvwf := Lib.hid (wf_getD hQ.wf hp1)
      clear hQ hP hU hD hB hm0 hm1 hlen hk0 hkm
      by_cases hlt : kap t n < kap t (h'.getD ((k - 1) / 2) 0)
      · have Hb : Hid (ltB t n (h'.getD ((k - 1) / 2) 0) = true) := Lib.hid (decide_eq_true hlt)
        have Hlt := Lib.hid hlt
        clear hlt
        obtain ⟨v, hv⟩ : ∃ v, v = h'.getD ((k - 1) / 2) 0 := ⟨_, rfl⟩
        rw [← hv] at cp Hb Hlt hvwf
        have Hv := Lib.hid hv
        clear hv
        rcases hless.out with ⟨hF, ht⟩ | ⟨tb, hF, hct, htb⟩
        · have Ht := Lib.hid ht
          rw [hF] at c0
          clear hF ht
          go_wp2_with fail
          go_quiet ((go_at_call 36; exact quiet_same (less1 Ht.out Hb.out _)))
          go_wp2_with fail
          refine (put_calls (HQ.out.drewN nq) hBr k v hkl hvwf.out hN2 hl1).mono ?_
          rintro e w' ⟨rfl, hQ', hB'⟩
          have HX := Lib.hid (up_step hk1 hki hkl HLN.out HP.out HU.out HD.out hN' HB.out Hv.out Hlt.out hQ' hB')
          clear hQ' hB'
          go_wp2
          refine ⟨⟨(k - 1) / 2, by rw [show (((k - 1) / 2 : Nat) : Int) = ((k : Int) - 1) / 2 by omega], by omega, HX⟩, by simp [intOf]; omega⟩
        · have Hct : Hid (wr.cell? ⟨tb, 0, none⟩ = some (.bool t)) := Lib.hid ((HB.out.cell (p := ⟨tb, 0, none⟩) htb).trans hct)
          rw [hF] at c0
          clear hF hct htb
          go_wp2_with fail
          go_quiet ((go_at_call 25; exact quiet_same (less2 Hb.out Hct.out)))
          go_wp2_with fail
          refine (put_calls (HQ.out.drewN nq) hBr k v hkl hvwf.out hN2 hl1).mono ?_
          rintro e w' ⟨rfl, hQ', hB'⟩
          have HX := Lib.hid (up_step hk1 hki hkl HLN.out HP.out HU.out HD.out hN' HB.out Hv.out Hlt.out hQ' hB')
          clear hQ' hB'
          go_wp2
          refine ⟨⟨(k - 1) / 2, by rw [show (((k - 1) / 2 : Nat) : Int) = ((k : Int) - 1) / 2 by omega], by omega, HX⟩, by simp [intOf]; omega⟩
      · have Hb : Hid (ltB t n (h'.getD ((k - 1) / 2) 0) = false) := Lib.hid (decide_eq_false hlt)
        have Hlt := Lib.hid hlt
        clear hlt
        obtain ⟨v, hv⟩ : ∃ v, v = h'.getD ((k - 1) / 2) 0 := ⟨_, rfl⟩
        rw [← hv] at cp Hb
        clear hv
        rcases hless.out with ⟨hF, ht⟩ | ⟨tb, hF, hct, htb⟩
        · have Ht := Lib.hid ht
          rw [hF] at c0
          clear hF ht
          go_wp2_with fail
          go_quiet ((go_at_call 36; exact quiet_same (less1 Ht.out Hb.out _)))
          go_wp2_with fail
          refine (put_calls (HQ.out.drewN nq) hBr k n hkl HW.out hN2 hl1).mono ?_
          rintro e w' ⟨rfl, hQ', hB'⟩
          have hx := up_end (sv := .slice (some ⟨g, 0, none⟩) hp.length cap) Hhin.out hki HM.out.1 HM.out.2 hkl HLN.out HP.out HU.out HD.out hN' hi HB.out (.inr (Int.not_lt.2 Hlt.out)) hQ' hB'
          rw [← HKM.out] at hx
          have HX := Lib.hid hx
          clear hQ' hB' hx
          go_wp2
          go_ret
          exact HX.out
        · have Hct : Hid (wr.cell? ⟨tb, 0, none⟩ = some (.bool t)) := Lib.hid ((HB.out.cell (p := ⟨tb, 0, none⟩) htb).trans hct)
          rw [hF] at c0
          clear hF hct htb
          go_wp2_with fail
          go_quiet ((go_at_call 25; exact quiet_same (less2 Hb.out Hct.out)))
          go_wp2_with fail
          refine (put_calls (HQ.out.drewN nq) hBr k n hkl HW.out hN2 hl1).mono ?_
          rintro e w' ⟨rfl, hQ', hB'⟩
          have hx := up_end (sv := .slice (some ⟨g, 0, none⟩) hp.length cap) Hhin.out hki HM.out.1 HM.out.2 hkl HLN.out HP.out HU.out HD.out hN' hi HB.out (.inr (Int.not_lt.2 Hlt.out)) hQ' hB'
          rw [← HKM.out] at hx
          have HX := Lib.hid hx
          clear hQ' hB' hx
          go_wp2
          go_ret
          exact HX.out
end Go.Proofs.Ytingoaklioplaaa
