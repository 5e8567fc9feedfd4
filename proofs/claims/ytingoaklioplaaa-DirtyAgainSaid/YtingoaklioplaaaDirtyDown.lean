/- The walk of the queue's down, over what its blocks hold. Conditions: numbers fit an int; the sizes are small. -/
import Derived.Test.YtingoaklioplaaaDirtyUp
namespace Go.Proofs.Ytingoaklioplaaa
open Go.RowKit
set_option linter.unusedVariables false

/-- What down leaves: the heap in order, its places exact. -/
def DownSays (Pr : Nat → Prop) (w : World) (Q M N : Nat) (F : Value) (t : Bool) (hp : List Int) (n : Int) (S : Int → Bool) (e : Ending) (w' : World) : Prop :=
  ∃ (sv : Value) (h' : List Int) (f' : Int → Option Nat) (N' : Nat), e = .returned (.tuple #[]) ∧ QS Pr w' Q M N' F t sv h' f' ∧ Exact h' f' ∧ h'.length = hp.length ∧ (∀ x, (f' x).isSome = (decide (x = n) || S x)) ∧
    N' ≤ N + hp.length + 1 ∧ Keeps Pr w w' ∧ Heap t h'
/-- The loop of down, at its head. -/
def DownLoop (Pr : Nat → Prop) (w : World) (Q M N : Nat) (F : Value) (t : Bool) (g cap : Nat) (hp : List Int) (n : Int) (S : Int → Bool) (k : Nat) (wr : World) : Prop :=
  ∃ (h' : List Int) (f' : Int → Option Nat) (N' : Nat), k < hp.length ∧ h'.length = hp.length ∧ QS Pr wr Q M N' F t (.slice (some ⟨g, 0, none⟩) hp.length cap) h' f' ∧ Places h' k n f' ∧ DownAt t (h'.set k n) k ∧ Dom f' n S ∧
    N' ≤ N + k ∧ Keeps Pr w wr
theorem down_step {Pr : Nat → Prop} {Q M N N' : Nat} {w wr w' : World} {F : Value} {t : Bool} {g cap : Nat} {hp h' : List Int} {f' : Int → Option Nat} {j k : Nat} {n v : Int} {S : Int → Bool}
    (hjl : j < h'.length) (hkl : k < h'.length) (hkj : k = 2 * j + 1 ∨ k = 2 * j + 2) (hlen : h'.length = hp.length) (hP : Places h' j n f') (hU : DownAt t (h'.set j n) j) (hD : Dom f' n S) (hN' : N' ≤ N + j) (hB : Keeps Pr w wr)
    (hv : v = h'.getD k 0) (hlt : kap t v < kap t n) (hmin : ∀ x, x = 2 * j + 1 ∨ x = 2 * j + 2 → x < h'.length → kap t v ≤ kap t (h'.getD x 0)) {nq : Nat} (hQ : QS Pr w' Q M (N' + 1) F t (.slice (some ⟨g, 0, none⟩) hp.length cap) (h'.set j v) (upd f' v (some j))) (hB' : Keeps Pr (wr.drewN nq) w') :
    DownLoop Pr w Q M N F t g cap hp n S k w' := by
  subst hv
  obtain ⟨p1, p2, p3⟩ := hP.step hjl hkl (by omega)
  exact ⟨_, _, N' + 1, by omega, by rw [List.length_set]; exact hlen, hQ, p1, hU.step hkl hjl hkj hlt hmin, hD.step p2 p3, by omega, (below_dN hB nq).trans hB'⟩
theorem down_end {Pr : Nat → Prop} {Q M N N' : Nat} {w wr w' : World} {F sv : Value} {t : Bool} {hp h' : List Int} {f' : Int → Option Nat} {j : Nat} {n : Int} {S : Int → Bool}
    (hjl : j < h'.length) (hlen : h'.length = hp.length) (hP : Places h' j n f') (hU : DownAt t (h'.set j n) j) (hD : Dom f' n S) (hN' : N' ≤ N + j) (hB : Keeps Pr w wr)
    (hstop : ∀ x, x = 2 * j + 1 ∨ x = 2 * j + 2 → x < h'.length → kap t n ≤ kap t (h'.getD x 0)) {nq : Nat} (hQ : QS Pr w' Q M (N' + 1) F t sv (h'.set j n) (upd f' n (some j))) (hB' : Keeps Pr (wr.drewN nq) w') :
    DownSays Pr w Q M N F t hp n S (.returned (.tuple #[])) w' := by
  have hg := getD_set h' j (v := n) (h := hjl)
  refine ⟨sv, _, _, N' + 1, rfl, hQ, hP.done hjl, by rw [List.length_set]; exact hlen, fun x => hD.done x, by omega, (below_dN hB nq).trans hB', hU.done fun x hx hxl => ?_⟩
  rw [List.length_set] at hxl
  rw [hg, hg, if_pos rfl, if_neg (by omega)]
  exact hstop x hx hxl

theorem quiet_same2 {P : Program} {f : FuncId} {args : Array Value} {w : World} {m n : Nat} {v : Value}
    (h : Calls P f args (w.drewN (m + n)) fun e w' => e = .returned v ∧ w.drewN (m + n) = w') : Calls P f args (w.drewN (m + n)) fun e w'' => e = .returned v ∧ ∃ k, w'' = w.drewN (m + k) :=
  h.mono fun _ _ ⟨he, hm⟩ => ⟨he, n, hm.symm⟩
set_option maxHeartbeats 4000000 in
theorem down_calls {Pr : Nat → Prop} {Q M N : Nat} {w : World} {F sv : Value} {t : Bool} {hp : List Int} {f : Int → Option Nat} (h : QS Pr w Q M N F t sv hp f) (hBw : Old Pr w) (i : Nat) (n : Int) (hi : i < hp.length) (hin : hp.getD i 0 = n) (hN : N ≤ 1000000) (hl : hp.length ≤ 1000000)
    (S : Int → Bool) (hP : Places hp i n f) (hU : DownAt t hp i) (hD : Dom f n S) :
    Calls Try.prog 40 #[.pointer (some ⟨Q, 0, none⟩), .int .i64 (i : Nat)] w (DownSays Pr w Q M N F t hp n S) := by
  obtain ⟨g, cap, rfl⟩ := h.slice (by omega)
  have hset : hp.set i n = hp := by rw [← hin]; exact set_getD hp i
  have hn : IsI64 n := by rw [← hin]; exact wf_getD h.wf hi
  have c0 := h.c0
  have c1 := h.c1
  have ci := h.at rfl i hi
  rw [hin] at ci
  have HL : Hid (DownLoop Pr w Q M N F t g cap hp n S i w) := Lib.hid ⟨hp, f, N, hi, rfl, h, hP, by rw [hset]; exact hU, hD, by omega, Keeps.refl _ _⟩
  have HW := Lib.hid hn
  have HBw := Lib.hid hBw
  have hless := Lib.hid h.less
  clear hin hset hn hP hU hD h hBw
  go_enter Try.func40, Try.ntmps40
  go_wp2
  clear c0 c1 ci
  go_loopw [1] (fun c wr => ∃ j : Nat, c = .int .i64 j ∧ j < hp.length ∧ Hid (DownLoop Pr w Q M N F t g cap hp n S j wr)) (fun c _ => hp.length - (intOf c).toNat)
  case atStart => exact ⟨i, rfl, hi, HL⟩
  case round =>
    obtain ⟨j, rfl, hj, HLk⟩ := hrel
    obtain ⟨h', f', N', _, hlen, hQ, hP, hU, hD, hN', hB⟩ := HLk.out
    have c0 := hQ.c0
    have c1 := hQ.c1
    have hjl : j < h'.length := by omega
    have hBr : Old Pr wr := Old.up HBw.out hB.size
    have HQ := Lib.hid hQ
    have HP := Lib.hid hP
    have HU := Lib.hid hU
    have HD := Lib.hid hD
    have HB := Lib.hid hB
    have HLN := Lib.hid hlen
    have hN2 : N' ≤ 1000000000 := by omega
    have hl1 : h'.length ≤ 1000000 := by omega
    have hcell := Lib.hid (fun x (hx : x < h'.length) => hQ.at hlen.symm x hx)
    have hwfx := Lib.hid (fun x (hx : x < h'.length) => wf_getD hQ.wf hx)
    clear hQ hP hU hD hB
    by_cases hA : hp.length ≤ 2 * j + 1
    · have hstop : Hid (∀ x, x = 2 * j + 1 ∨ x = 2 * j + 2 → x < h'.length → kap t n ≤ kap t (h'.getD x 0)) := Lib.hid (fun x hx hxl => by omega)
      clear hlen
      go_wp2_with fail
      refine (put_calls (HQ.out.drewN 0) hBr j n hjl HW.out hN2 hl1).mono ?_
      rintro e w' ⟨rfl, hQ', hB'⟩
      have HX := Lib.hid (down_end (nq := 0) hjl HLN.out HP.out HU.out HD.out hN' HB.out hstop.out hQ' hB')
      clear hQ' hB'
      go_wp2
      go_end0
      exact HX.out
    · have ha1 : 2 * j + 1 < hp.length := by omega
      have a1 : 2 * j + 1 < h'.length := by omega
      obtain ⟨v1, hv1⟩ : ∃ v, v = h'.getD (2 * j + 1) 0 := ⟨_, rfl⟩
      have d1 := hcell.out (2 * j + 1) a1
      rw [← hv1] at d1
      have Wf1 := Lib.hid (hwfx.out _ a1)
      rw [← hv1] at Wf1
      by_cases hC : 2 * j + 2 < hp.length
      · have a2 : 2 * j + 2 < h'.length := by omega
        obtain ⟨v2, hv2⟩ : ∃ v, v = h'.getD (2 * j + 2) 0 := ⟨_, rfl⟩
        have d2 := hcell.out (2 * j + 2) a2
        rw [← hv2] at d2
        have Wf2 := Lib.hid (hwfx.out _ a2)
        rw [← hv2] at Wf2
        have hg1 : decide ((2 : Int) * (j : Int) + 1 + 1 < (hp.length : Int)) = true := by simp; omega
        have hg2 : decide (2 * j + 1 + 1 < hp.length) = true := decide_eq_true (by omega)
        have d3 : wr.cell? ⟨g, 2 * j + 1 + 1, none⟩ = some (.int .i64 v2) := d2
        have hb2 : 2 * j + 1 + 1 < hp.length := by omega
        by_cases hE : kap t v2 < kap t v1
        · have Hb1 : Hid (ltB t v2 v1 = true) := Lib.hid (decide_eq_true hE)
          have hmin : Hid (∀ x, x = 2 * j + 1 ∨ x = 2 * j + 2 → x < h'.length → kap t v2 ≤ kap t (h'.getD x 0)) := Lib.hid (fun x hx _ => by
            rcases hx with rfl | rfl
            · rw [← hv1]; omega
            · rw [← hv2]; omega)
          have Hv := Lib.hid hv2
          clear hE hv1 hv2 hlen
          by_cases hG : kap t v2 < kap t n
          · have HE2 : Hid (kap t v2 < kap t n) := Lib.hid hG
            have Hb2 : Hid (ltB t v2 n = true) := Lib.hid (decide_eq_true hG)
            clear hG
            rcases hless.out with ⟨hF, ht⟩ | ⟨tb, hF, hct, htb⟩
            · have Ht := Lib.hid ht
              rw [hF] at c0
              clear hF ht
              go_wp2_with fail
              go_quiet ((go_at_call 36; exact quiet_same (less1 Ht.out Hb1.out _)))
              go_wp2_with fail
              go_quiet ((go_at_call 36; exact quiet_same2 (less1 Ht.out Hb2.out _)))
              go_wp2_with fail
              refine (put_calls (HQ.out.drewN _) hBr j v2 hjl Wf2.out hN2 hl1).mono ?_
              rintro e w' ⟨rfl, hQ', hB'⟩
              have HX := Lib.hid (down_step hjl a2 (.inr rfl) HLN.out HP.out HU.out HD.out hN' HB.out Hv.out HE2.out hmin.out hQ' hB')
              clear hQ' hB'
              go_wp2
              refine ⟨⟨2 * j + 2, by go_num, by omega, HX⟩, by simp [intOf]; omega⟩
            · have Hct : Hid (wr.cell? ⟨tb, 0, none⟩ = some (.bool t)) := Lib.hid ((HB.out.cell (p := ⟨tb, 0, none⟩) htb).trans hct)
              rw [hF] at c0
              clear hF hct htb
              go_wp2_with fail
              go_quiet ((go_at_call 25; exact quiet_same (less2 Hb1.out Hct.out)))
              go_wp2_with fail
              go_quiet ((go_at_call 25; exact quiet_same2 (less2 Hb2.out Hct.out)))
              go_wp2_with fail
              refine (put_calls (HQ.out.drewN _) hBr j v2 hjl Wf2.out hN2 hl1).mono ?_
              rintro e w' ⟨rfl, hQ', hB'⟩
              have HX := Lib.hid (down_step hjl a2 (.inr rfl) HLN.out HP.out HU.out HD.out hN' HB.out Hv.out HE2.out hmin.out hQ' hB')
              clear hQ' hB'
              go_wp2
              refine ⟨⟨2 * j + 2, by go_num, by omega, HX⟩, by simp [intOf]; omega⟩
          · have HE2 : Hid (kap t n ≤ kap t v2) := Lib.hid (Int.not_lt.1 hG)
            have Hb2 : Hid (ltB t v2 n = false) := Lib.hid (decide_eq_false hG)
            clear hG
            rcases hless.out with ⟨hF, ht⟩ | ⟨tb, hF, hct, htb⟩
            · have Ht := Lib.hid ht
              rw [hF] at c0
              clear hF ht
              go_wp2_with fail
              go_quiet ((go_at_call 36; exact quiet_same (less1 Ht.out Hb1.out _)))
              go_wp2_with fail
              go_quiet ((go_at_call 36; exact quiet_same2 (less1 Ht.out Hb2.out _)))
              go_wp2_with fail
              refine (put_calls (HQ.out.drewN _) hBr j n hjl HW.out hN2 hl1).mono ?_
              rintro e w' ⟨rfl, hQ', hB'⟩
              have HX := Lib.hid (down_end hjl HLN.out HP.out HU.out HD.out hN' HB.out (fun x hx hxl => Int.le_trans HE2.out (hmin.out x hx hxl)) hQ' hB')
              clear hQ' hB'
              go_wp2
              go_end0
              exact HX.out
            · have Hct : Hid (wr.cell? ⟨tb, 0, none⟩ = some (.bool t)) := Lib.hid ((HB.out.cell (p := ⟨tb, 0, none⟩) htb).trans hct)
              rw [hF] at c0
              clear hF hct htb
              go_wp2_with fail
              go_quiet ((go_at_call 25; exact quiet_same (less2 Hb1.out Hct.out)))
              go_wp2_with fail
              go_quiet ((go_at_call 25; exact quiet_same2 (less2 Hb2.out Hct.out)))
              go_wp2_with fail
              refine (put_calls (HQ.out.drewN _) hBr j n hjl HW.out hN2 hl1).mono ?_
              rintro e w' ⟨rfl, hQ', hB'⟩
              have HX := Lib.hid (down_end hjl HLN.out HP.out HU.out HD.out hN' HB.out (fun x hx hxl => Int.le_trans HE2.out (hmin.out x hx hxl)) hQ' hB')
              clear hQ' hB'
              go_wp2
              go_end0
              exact HX.out
        · have Hb1 : Hid (ltB t v2 v1 = false) := Lib.hid (decide_eq_false hE)
          have hmin : Hid (∀ x, x = 2 * j + 1 ∨ x = 2 * j + 2 → x < h'.length → kap t v1 ≤ kap t (h'.getD x 0)) := Lib.hid (fun x hx _ => by
            rcases hx with rfl | rfl
            · rw [← hv1]; omega
            · rw [← hv2]; omega)
          have Hv := Lib.hid hv1
          clear hE hv1 hv2 hlen
          by_cases hG : kap t v1 < kap t n
          · have HE2 : Hid (kap t v1 < kap t n) := Lib.hid hG
            have Hb2 : Hid (ltB t v1 n = true) := Lib.hid (decide_eq_true hG)
            clear hG
            rcases hless.out with ⟨hF, ht⟩ | ⟨tb, hF, hct, htb⟩
            · have Ht := Lib.hid ht
              rw [hF] at c0
              clear hF ht
              go_wp2_with fail
              go_quiet ((go_at_call 36; exact quiet_same (less1 Ht.out Hb1.out _)))
              go_wp2_with fail
              go_quiet ((go_at_call 36; exact quiet_same2 (less1 Ht.out Hb2.out _)))
              go_wp2_with fail
              refine (put_calls (HQ.out.drewN _) hBr j v1 hjl Wf1.out hN2 hl1).mono ?_
              rintro e w' ⟨rfl, hQ', hB'⟩
              have HX := Lib.hid (down_step hjl a1 (.inl rfl) HLN.out HP.out HU.out HD.out hN' HB.out Hv.out HE2.out hmin.out hQ' hB')
              clear hQ' hB'
              go_wp2
              refine ⟨⟨2 * j + 1, by go_num, by omega, HX⟩, by simp [intOf]; omega⟩
            · have Hct : Hid (wr.cell? ⟨tb, 0, none⟩ = some (.bool t)) := Lib.hid ((HB.out.cell (p := ⟨tb, 0, none⟩) htb).trans hct)
              rw [hF] at c0
              clear hF hct htb
              go_wp2_with fail
              go_quiet ((go_at_call 25; exact quiet_same (less2 Hb1.out Hct.out)))
              go_wp2_with fail
              go_quiet ((go_at_call 25; exact quiet_same2 (less2 Hb2.out Hct.out)))
              go_wp2_with fail
              refine (put_calls (HQ.out.drewN _) hBr j v1 hjl Wf1.out hN2 hl1).mono ?_
              rintro e w' ⟨rfl, hQ', hB'⟩
              have HX := Lib.hid (down_step hjl a1 (.inl rfl) HLN.out HP.out HU.out HD.out hN' HB.out Hv.out HE2.out hmin.out hQ' hB')
              clear hQ' hB'
              go_wp2
              refine ⟨⟨2 * j + 1, by go_num, by omega, HX⟩, by simp [intOf]; omega⟩
          · have HE2 : Hid (kap t n ≤ kap t v1) := Lib.hid (Int.not_lt.1 hG)
            have Hb2 : Hid (ltB t v1 n = false) := Lib.hid (decide_eq_false hG)
            clear hG
            rcases hless.out with ⟨hF, ht⟩ | ⟨tb, hF, hct, htb⟩
            · have Ht := Lib.hid ht
              rw [hF] at c0
              clear hF ht
              go_wp2_with fail
              go_quiet ((go_at_call 36; exact quiet_same (less1 Ht.out Hb1.out _)))
              go_wp2_with fail
              go_quiet ((go_at_call 36; exact quiet_same2 (less1 Ht.out Hb2.out _)))
              go_wp2_with fail
              refine (put_calls (HQ.out.drewN _) hBr j n hjl HW.out hN2 hl1).mono ?_
              rintro e w' ⟨rfl, hQ', hB'⟩
              have HX := Lib.hid (down_end hjl HLN.out HP.out HU.out HD.out hN' HB.out (fun x hx hxl => Int.le_trans HE2.out (hmin.out x hx hxl)) hQ' hB')
              clear hQ' hB'
              go_wp2
              go_end0
              exact HX.out
            · have Hct : Hid (wr.cell? ⟨tb, 0, none⟩ = some (.bool t)) := Lib.hid ((HB.out.cell (p := ⟨tb, 0, none⟩) htb).trans hct)
              rw [hF] at c0
              clear hF hct htb
              go_wp2_with fail
              go_quiet ((go_at_call 25; exact quiet_same (less2 Hb1.out Hct.out)))
              go_wp2_with fail
              go_quiet ((go_at_call 25; exact quiet_same2 (less2 Hb2.out Hct.out)))
              go_wp2_with fail
              refine (put_calls (HQ.out.drewN _) hBr j n hjl HW.out hN2 hl1).mono ?_
              rintro e w' ⟨rfl, hQ', hB'⟩
              have HX := Lib.hid (down_end hjl HLN.out HP.out HU.out HD.out hN' HB.out (fun x hx hxl => Int.le_trans HE2.out (hmin.out x hx hxl)) hQ' hB')
              clear hQ' hB'
              go_wp2
              go_end0
              exact HX.out
      · have hg1 : decide ((2 : Int) * (j : Int) + 1 + 1 < (hp.length : Int)) = false := by simp; omega
        have hg2 : decide (2 * j + 1 + 1 < hp.length) = false := decide_eq_false (by omega)
        have hmin : Hid (∀ x, x = 2 * j + 1 ∨ x = 2 * j + 2 → x < h'.length → kap t v1 ≤ kap t (h'.getD x 0)) := Lib.hid (fun x hx hxl => by
          rcases hx with rfl | rfl
          · rw [← hv1]; omega
          · omega)
        have Hv := Lib.hid hv1
        clear hv1 hlen
        by_cases hG : kap t v1 < kap t n
        · have HE2 : Hid (kap t v1 < kap t n) := Lib.hid hG
          have Hb2 : Hid (ltB t v1 n = true) := Lib.hid (decide_eq_true hG)
          clear hG
          rcases hless.out with ⟨hF, ht⟩ | ⟨tb, hF, hct, htb⟩
          · have Ht := Lib.hid ht
            rw [hF] at c0
            clear hF ht
            go_wp2_with fail
            go_quiet (fail)
            go_wp2_with fail
            go_quiet ((go_at_call 36; exact quiet_same2 (less1 Ht.out Hb2.out _)))
            go_wp2_with fail
            refine (put_calls (HQ.out.drewN _) hBr j v1 hjl Wf1.out hN2 hl1).mono ?_
            rintro e w' ⟨rfl, hQ', hB'⟩
            have HX := Lib.hid (down_step hjl a1 (.inl rfl) HLN.out HP.out HU.out HD.out hN' HB.out Hv.out HE2.out hmin.out hQ' hB')
            clear hQ' hB'
            go_wp2
            refine ⟨⟨2 * j + 1, by go_num, by omega, HX⟩, by simp [intOf]; omega⟩
          · have Hct : Hid (wr.cell? ⟨tb, 0, none⟩ = some (.bool t)) := Lib.hid ((HB.out.cell (p := ⟨tb, 0, none⟩) htb).trans hct)
            rw [hF] at c0
            clear hF hct htb
            go_wp2_with fail
            go_quiet (fail)
            go_wp2_with fail
            go_quiet ((go_at_call 25; exact quiet_same2 (less2 Hb2.out Hct.out)))
            go_wp2_with fail
            refine (put_calls (HQ.out.drewN _) hBr j v1 hjl Wf1.out hN2 hl1).mono ?_
            rintro e w' ⟨rfl, hQ', hB'⟩
            have HX := Lib.hid (down_step hjl a1 (.inl rfl) HLN.out HP.out HU.out HD.out hN' HB.out Hv.out HE2.out hmin.out hQ' hB')
            clear hQ' hB'
            go_wp2
            refine ⟨⟨2 * j + 1, by go_num, by omega, HX⟩, by simp [intOf]; omega⟩
        · have HE2 : Hid (kap t n ≤ kap t v1) := Lib.hid (Int.not_lt.1 hG)
          have Hb2 : Hid (ltB t v1 n = false) := Lib.hid (decide_eq_false hG)
          clear hG
          rcases hless.out with ⟨hF, ht⟩ | ⟨tb, hF, hct, htb⟩
          · have Ht := Lib.hid ht
            rw [hF] at c0
            clear hF ht
            go_wp2_with fail
            go_quiet (fail)
            go_wp2_with fail
            go_quiet ((go_at_call 36; exact quiet_same2 (less1 Ht.out Hb2.out _)))
            go_wp2_with fail
            refine (put_calls (HQ.out.drewN _) hBr j n hjl HW.out hN2 hl1).mono ?_
            rintro e w' ⟨rfl, hQ', hB'⟩
            have HX := Lib.hid (down_end hjl HLN.out HP.out HU.out HD.out hN' HB.out (fun x hx hxl => Int.le_trans HE2.out (hmin.out x hx hxl)) hQ' hB')
            clear hQ' hB'
            go_wp2
            go_end0
            exact HX.out
          · have Hct : Hid (wr.cell? ⟨tb, 0, none⟩ = some (.bool t)) := Lib.hid ((HB.out.cell (p := ⟨tb, 0, none⟩) htb).trans hct)
            rw [hF] at c0
            clear hF hct htb
            go_wp2_with fail
            go_quiet (fail)
            go_wp2_with fail
            go_quiet ((go_at_call 25; exact quiet_same2 (less2 Hb2.out Hct.out)))
            go_wp2_with fail
            refine (put_calls (HQ.out.drewN _) hBr j n hjl HW.out hN2 hl1).mono ?_
            rintro e w' ⟨rfl, hQ', hB'⟩
            have HX := Lib.hid (down_end hjl HLN.out HP.out HU.out HD.out hN' HB.out (fun x hx hxl => Int.le_trans HE2.out (hmin.out x hx hxl)) hQ' hB')
            clear hQ' hB'
            go_wp2
            go_end0
            exact HX.out
end Go.Proofs.Ytingoaklioplaaa
