/- The walk of DirtyAgain: for any acts it returns true and leaves all old memory as it was. Conditions: the acts lie as the reading says. -/
import Derived.Test.YtingoaklioplaaaDirtyMid
import Derived.Deep.Cut
namespace Go.Proofs.Ytingoaklioplaaa
open Go.RowKit Go.Maps
set_option linter.unusedVariables false
set_option maxRecDepth 8000 in
set_option maxHeartbeats 2000000 in
theorem again_calls (W : World) (a : Option Addr) (len cap : Nat) (hl : len ≤ maxLen) (hA : ActsAt W a len) :
    Calls Try.prog 9 #[.slice a len cap] W fun e w' => e = .returned (.bool true) ∧ Below W.heap.size W w' := by
  have HA := Lib.hid hA
  clear hA
  have hmm := @run_makeMap Try.prog
  go_enter Try.func9, Try.ntmps9
  go_wp2_with fail
  refine (speaks3 _).mono ?_
  rintro e w1 ⟨rfl, hB1⟩
  have HB1 := Lib.hid hB1
  clear hB1
  go_wp2_with fail
  refine (new_nil _).mono ?_
  rintro e w2 ⟨rfl, rfl⟩
  go_wp2
  clear hmm
  go_loopw [5] (fun c wr => ∃ i : Nat, c = .int .i64 i ∧ i ≤ 100 ∧ i ≤ len ∧ Hid (AgainLoop W (w1.heap.size + 1) w1.heap.size (w1.heap.size + 1 + 1) i wr)) (fun c _ => 100 - (intOf c).toNat)
  case atStart => exact ⟨0, rfl, by omega, by omega, Lib.hid (start_as HB1.out)⟩
  case round =>
    clear HB1
    obtain ⟨i, rfl, hi100, hil, HL⟩ := hrel
    generalize w1.heap.size + 1 + 1 = B at HL ⊢
    generalize w1.heap.size + 1 = Q at HL ⊢
    generalize w1.heap.size = M at HL ⊢
    by_cases hlt : i < len
    · by_cases hlt8 : i < 100
      · have d1 : decide ((i : Int) < (len : Int)) = true := decide_eq_true (by omega)
        have d1n : decide (i < len) = true := decide_eq_true (by omega)
        have d2 : decide ((i : Int) < 100) = true := decide_eq_true (by omega)
        have d2n : decide (i < 100) = true := decide_eq_true (by omega)
        obtain ⟨g, off, q, n, rfl, hg, hc0, hc1, hq, hn⟩ := HA.out i hlt
        obtain ⟨Pr0, N, k, b, S, hp, hk, hN, hb, has⟩ := HL.out
        have e0 : wr.cell? ⟨g, off + i * 2, none⟩ = some (.int .i64 q) := (has.bel.cell (p := ⟨g, off + i * 2, none⟩) hg).trans hc0
        have e1 : wr.cell? ⟨g, off + i * 2 + 1, none⟩ = some (.int .i64 n) := (has.bel.cell (p := ⟨g, off + i * 2 + 1, none⟩) hg).trans hc1
        have Hn := Lib.hid hn
        have Hq := Lib.hid hq
        have hM := amid_start (q := q) (n := n) has
        generalize Ext Pr0 wr (wr.alloc (.cells #[.int .i64 q, .int .i64 n] 50)) = Pr at hM
        have HM := Lib.hid hM
        clear has hc0 hc1 HL hn hq hM
        by_cases h3 : ((wrap64 (q.tmod 6 + 6)).tmod 6 == 3) = true
        · by_cases hk0 : k = 0
          · subst hk0
            go_wp2_with fail
            refine (pop_none HM.out.st.qu).mono ?_
            rintro e wz ⟨rfl, hwz⟩
            rw [hwz] at HM
            clear hwz
            have hlen := HM.out.st.len
            obtain ⟨D, hown, hD⟩ := HM.out.st.ex
            have Hown := Lib.hid hown
            have HD := Lib.hid hD
            clear hown hD
            go_wp2_with (first
              | (at_range; refine wpList_range_own _ rfl _ 56 rfl 3 4 keyed3 Try.underlying56 _ B b D rfl Hown.out ?_; intro w0 hrg0 hg0 hs0)
              | fail)
            go_frame
            clear hlen
            have Hrg0 := Lib.hid hrg0
            have Hg0 := Lib.hid hg0
            clear hrg0 hg0 hs0
            go_loopw [9] (fun c wx => ∃ (left : Lit → Bool) (cnt : Nat), Hid (wx.ranges Try.prog 3 (plainElem Try.prog 4) B wz.heap.size b D left cnt) ∧ Hid (∀ kl, left kl = true → has D kl = true) ∧ Hid (wz.grownBy wx none)) (fun c wx => wx.rangeLeft B wz.heap.size)
            case atStart => exact ⟨_, _, Hrg0, Lib.hid (fun kl h => h), Hg0⟩
            case round =>
              clear Hrg0 Hg0
              obtain ⟨left, cnt, Hrg, Hhas, Hgx⟩ := hrel
              go_wp2_with (first
                | (at_next; refine wpList_next_in _ rfl _ rfl B wz.heap.size b D left cnt rfl Hrg.out ?_ ?_)
                | fail)
              · intro _
                have HM2 := Lib.hid (HM.out.grow Hgx.out)
                obtain ⟨w3, hdel, hM3⟩ := HM2.out.del_no (x := 0) ⟨by decide, by decide⟩ (none_there HD.out ⟨by decide, by decide⟩) 0
                have HM3 := Lib.hid hM3
                clear hM3
                obtain ⟨vv, hvv⟩ : ∃ v, S n = v := ⟨_, rfl⟩
                have hget := fun j => (HM3.out.drewN j).st.get Hn.out hvv
                have Hhas := Lib.hid (fun j => has_is (HM3.out.drewN j).st.qu Hn.out hvv)
                clear hvv
                have hlen2 := fun j => (HM3.out.drewN j).st.len
                have g3 : (((0 : Nat) : Int) != ((0 : Nat) : Int)) = false := by simp
                have g4 : (vv != vv) = false := by simp
                have f1 := HM3.out.c1
                go_wp2_with fail
                go_quiet (first | (go_at_call 31; exact quiet_same (len_calls (HM3.out.drewN _).st.qu)) | (go_at_call 29; exact quiet_same (Hhas.out _)))
                go_wp2
                exact ⟨⟨i + 1, by go_num, by omega, by omega, Lib.hid (again_next (HM3.out.drewN _) (by omega) (by omega) (by omega))⟩, by simp [intOf]; omega⟩
              · intro x v w1 cnt1 hx hlk hrg1 hlt1 hg1 hen
                have hxT := come_there HD.out Hhas.out hx hlk
                have hle : 0 ≤ x := (show False by rw [none_there HD.out hx] at hxT; cases hxT).elim
                have hd : decide ((x : Int) < 0) = false := decide_eq_false (by omega)
                have Hrg1 := Lib.hid hrg1
                have Hgx1 := Lib.hid (Hgx.out.andThen hg1 (fun j hj => by cases hj; exact .inl (Nat.le_refl _)))
                have hlt2 := hlt1
                rw [← Hrg1.out.left_eq, ← Hrg.out.left_eq] at hlt2
                have Hhas1 := Lib.hid (come_rest (.int .i64 x) Hhas.out)
                have Hlt2 := Lib.hid hlt2
                clear hrg1 hg1 hlk hlt1 hlt2 hx hxT hle
                go_wp2
                exact ⟨⟨_, cnt1, Hrg1, Hhas1, Hgx1⟩, Hlt2.out⟩
          · obtain ⟨k, rfl⟩ : ∃ j, k = j + 1 := ⟨k - 1, by omega⟩
            obtain ⟨hm0, hm1, hm2⟩ := HM.out.st.qu.min
            go_wp2_with fail
            refine (pop_some HM.out.st.qu (by omega) (by omega)).mono ?_
            generalize hp.getD 0 0 = p at hm0 hm1 hm2
            have Hm0 := Lib.hid hm0
            have Hm1 := Lib.hid hm1
            have Hm2 := Lib.hid hm2
            clear hm0 hm1 hm2
            rintro e wz ⟨hp2, N2, rfl, hQ2, hN2, hK2⟩
            have hM1 := HM.out.queue hQ2 hK2
            clear hQ2 hK2 HM
            have HM := Lib.hid hM1
            clear hM1
            have hlen := HM.out.st.len
            have hget := HM.out.st.get Hm0.out Hm1.out
            have g0 : decide ((0 : Int) < (((k + 1 : Nat) : Nat) : Int)) = true := decide_eq_true (by omega)
            obtain ⟨D, hown, hD⟩ := HM.out.st.ex
            have Hown := Lib.hid hown
            have HD := Lib.hid hD
            clear hown hD
            go_wp2_with (first
              | (at_range; refine wpList_range_own _ rfl _ 56 rfl 3 4 keyed3 Try.underlying56 _ B b D rfl Hown.out ?_; intro w0 hrg0 hg0 hs0)
              | fail)
            go_frame
            clear hlen hget
            have Hrg0 := Lib.hid hrg0
            have Hg0 := Lib.hid hg0
            clear hrg0 hg0 hs0
            go_loopw [9] (fun c wx => ∃ (left : Lit → Bool) (cnt : Nat), Hid (wx.ranges Try.prog 3 (plainElem Try.prog 4) B wz.heap.size b D left cnt) ∧ Hid (∀ kl, left kl = true → has D kl = true) ∧ Hid (wz.grownBy wx none)) (fun c wx => wx.rangeLeft B wz.heap.size)
            case atStart => exact ⟨_, _, Hrg0, Lib.hid (fun kl h => h), Hg0⟩
            case round =>
              clear Hrg0 Hg0
              obtain ⟨left, cnt, Hrg, Hhas, Hgx⟩ := hrel
              go_wp2_with (first
                | (at_next; refine wpList_next_in _ rfl _ rfl B wz.heap.size b D left cnt rfl Hrg.out ?_ ?_)
                | fail)
              · intro _
                have HM2 := Lib.hid (HM.out.grow Hgx.out)
                obtain ⟨w3, hdel, hM3⟩ := HM2.out.del Hm0.out Hm1.out 0
                have HM3 := Lib.hid hM3
                clear hM3
                obtain ⟨vv, hvv⟩ : ∃ v, (fun y => !decide (y = p) && S y) n = v := ⟨_, rfl⟩
                have hget := fun j => (HM3.out.drewN j).st.get Hn.out hvv
                have Hhas := Lib.hid (fun j => has_is (HM3.out.drewN j).st.qu Hn.out hvv)
                clear hvv
                have hlen2 := fun j => (HM3.out.drewN j).st.len
                have g3 : (((k : Nat) : Int) != ((k : Nat) : Int)) = false := by simp
                have g4 : (vv != vv) = false := by simp
                have f1 := HM3.out.c1
                go_wp2_with fail
                go_quiet (first | (go_at_call 31; exact quiet_same (len_calls (HM3.out.drewN _).st.qu)) | (go_at_call 29; exact quiet_same (Hhas.out _)))
                go_wp2
                exact ⟨⟨i + 1, by go_num, by omega, by omega, Lib.hid (again_next (HM3.out.drewN _) (by omega) (by omega) (by omega))⟩, by simp [intOf]; omega⟩
              · intro x v w1 cnt1 hx hlk hrg1 hlt1 hg1 hen
                have hxT := come_there HD.out Hhas.out hx hlk
                have hle : p ≤ x := (by have := Hm2.out x hxT; simpa [kap] using this)
                have hd : decide ((x : Int) < p) = false := decide_eq_false (by omega)
                have Hrg1 := Lib.hid hrg1
                have Hgx1 := Lib.hid (Hgx.out.andThen hg1 (fun j hj => by cases hj; exact .inl (Nat.le_refl _)))
                have hlt2 := hlt1
                rw [← Hrg1.out.left_eq, ← Hrg.out.left_eq] at hlt2
                have Hhas1 := Lib.hid (come_rest (.int .i64 x) Hhas.out)
                have Hlt2 := Lib.hid hlt2
                clear hrg1 hg1 hlk hlt1 hlt2 hx hxT hle
                go_wp2
                exact ⟨⟨_, cnt1, Hrg1, Hhas1, Hgx1⟩, Hlt2.out⟩
        · have h3f : ((wrap64 (q.tmod 6 + 6)).tmod 6 == 3) = false := Bool.eq_false_iff.2 h3
          clear h3
          by_cases h4 : ((wrap64 (q.tmod 6 + 6)).tmod 6 == 4) = true
          · by_cases hin : S n = true
            · have Hin := Lib.hid hin
              obtain ⟨k, rfl⟩ : ∃ j, k = j + 1 := ⟨k - 1, by
                cases k with
                | zero =>
                  obtain ⟨D, _, hD⟩ := HM.out.st.ex
                  have := none_there hD Hn.out
                  rw [hin] at this
                  cases this
                | succ k => omega⟩
              clear hin
              go_wp2_with fail
              generalize wr.alloc (.cells #[.int .i64 q, .int .i64 n] 50) = wz at HM ⊢
              have HMd : Hid (AMid Pr W wz.drew Q M N B b (k + 1) (k + 1) S S hp wr.heap.size q n) := Lib.hid (HM.out.drewN 1)
              have f1 := HM.out.c1
              have hget := HMd.out.st.get Hn.out Hin.out
              go_region_with (first
                | (go_at_call 28; refine (rem_yes HMd.out.st.qu Hn.out Hin.out (by omega) (by omega)).mono ?_; rintro e w2 ⟨hp2, N2, rfl, hQ2, hN2, hK2⟩; have hM1 := HMd.out.queue hQ2 hK2; have HM1 := Lib.hid hM1; have f2 := HM1.out.c1; have hget2 := HM1.out.st.get Hn.out Hin.out; clear hQ2 hK2 hM1))
              all_goals
                obtain ⟨w3, hstep, hM3⟩ := HM1.out.del Hn.out Hin.out 0
                have HM3 := Lib.hid hM3
                clear hM3 hget hget2
                obtain ⟨vv, hvv⟩ : ∃ v, (fun y => !decide (y = n) && S y) n = v := ⟨_, rfl⟩
                have hget := fun j => (HM3.out.drewN j).st.get Hn.out hvv
                have Hhas := Lib.hid (fun j => has_is (HM3.out.drewN j).st.qu Hn.out hvv)
                clear hvv
                have hlen2 := fun j => (HM3.out.drewN j).st.len
                have g3 : (((k : Nat) : Int) != ((k : Nat) : Int)) = false := by simp
                have g4 : (vv != vv) = false := by simp
                have f1 := HM3.out.c1
                go_wp2_with fail
                go_quiet (first | (go_at_call 31; exact quiet_same (len_calls (HM3.out.drewN _).st.qu)) | (go_at_call 29; exact quiet_same (Hhas.out _)))
                go_wp2
                exact ⟨⟨i + 1, by go_num, by omega, by omega, Lib.hid (again_next (HM3.out.drewN _) (by omega) (by omega) (by omega))⟩, by simp [intOf]; omega⟩
            · have hin' : S n = false := Bool.eq_false_iff.2 hin
              have Hin := Lib.hid hin'
              clear hin hin'
              go_wp2_with fail
              generalize wr.alloc (.cells #[.int .i64 q, .int .i64 n] 50) = wz at HM ⊢
              have f1 := HM.out.c1
              have hget := fun j => (HM.out.drewN j).st.get Hn.out Hin.out
              go_quiet ((go_at_call 28; exact quiet_same (rem_no (HM.out.drewN _).st.qu Hn.out Hin.out)))
              have HM2 := Lib.hid (HM.out.drewN nq)
              have f2 := HM2.out.c1
              obtain ⟨w3, hstep, hM3⟩ := HM2.out.del_no Hn.out Hin.out 0
              have HM3 := Lib.hid hM3
              clear hM3 hget
              obtain ⟨vv, hvv⟩ : ∃ v, S n = v := ⟨_, rfl⟩
              have hget := fun j => (HM3.out.drewN j).st.get Hn.out hvv
              have Hhas := Lib.hid (fun j => has_is (HM3.out.drewN j).st.qu Hn.out hvv)
              clear hvv
              have hlen2 := fun j => (HM3.out.drewN j).st.len
              have g3 : (((k : Nat) : Int) != ((k : Nat) : Int)) = false := by simp
              have g4 : (vv != vv) = false := by simp
              have f1 := HM3.out.c1
              go_wp2_with fail
              go_quiet (first | (go_at_call 31; exact quiet_same (len_calls (HM3.out.drewN _).st.qu)) | (go_at_call 29; exact quiet_same (Hhas.out _)))
              go_wp2
              exact ⟨⟨i + 1, by go_num, by omega, by omega, Lib.hid (again_next (HM3.out.drewN _) (by omega) (by omega) (by omega))⟩, by simp [intOf]; omega⟩
          · have h4f : ((wrap64 (q.tmod 6 + 6)).tmod 6 == 4) = false := Bool.eq_false_iff.2 h4
            clear h4
            by_cases hin : S n = true
            · have Hin := Lib.hid hin
              clear hin
              go_wp2_with fail
              generalize wr.alloc (.cells #[.int .i64 q, .int .i64 n] 50) = wz at HM ⊢
              have f1 := HM.out.c1
              have hget := fun j => (HM.out.drewN j).st.get Hn.out Hin.out
              go_quiet ((go_at_call 30; exact quiet_same (push_no (HM.out.drewN _).st.qu Hn.out Hin.out)))
              have HM2 := Lib.hid (HM.out.drewN nq)
              have f2 := HM2.out.c1
              obtain ⟨w3, hstep, hM3⟩ := HM2.out.put_in Hn.out Hin.out (by unfold maxLen; omega)
              have HM3 := Lib.hid hM3
              clear hM3 hget
              obtain ⟨vv, hvv⟩ : ∃ v, S n = v := ⟨_, rfl⟩
              have hget := fun j => (HM3.out.drewN j).st.get Hn.out hvv
              have Hhas := Lib.hid (fun j => has_is (HM3.out.drewN j).st.qu Hn.out hvv)
              clear hvv
              have hlen2 := fun j => (HM3.out.drewN j).st.len
              have g3 : (((k : Nat) : Int) != ((k : Nat) : Int)) = false := by simp
              have g4 : (vv != vv) = false := by simp
              have f1 := HM3.out.c1
              go_wp2_with fail
              go_quiet (first | (go_at_call 31; exact quiet_same (len_calls (HM3.out.drewN _).st.qu)) | (go_at_call 29; exact quiet_same (Hhas.out _)))
              go_wp2
              exact ⟨⟨i + 1, by go_num, by omega, by omega, Lib.hid (again_next (HM3.out.drewN _) (by omega) (by omega) (by omega))⟩, by simp [intOf]; omega⟩
            · have hin' : S n = false := Bool.eq_false_iff.2 hin
              have Hin := Lib.hid hin'
              clear hin hin'
              go_wp2_with fail
              generalize wr.alloc (.cells #[.int .i64 q, .int .i64 n] 50) = wz at HM ⊢
              have HMd : Hid (AMid Pr W wz.drew Q M N B b k k S S hp wr.heap.size q n) := Lib.hid (HM.out.drewN 1)
              have f1 := HM.out.c1
              have hget := HMd.out.st.get Hn.out Hin.out
              go_region_with (first
                | (go_at_call 30; refine (push_yes HMd.out.st.qu Hn.out Hin.out (by omega) (by omega)).mono ?_; rintro e w2 ⟨hp2, N2, rfl, hQ2, hN2, hK2⟩; have hM1 := HMd.out.queue hQ2 hK2; have HM1 := Lib.hid hM1; have f2 := HM1.out.c1; have hget2 := HM1.out.st.get Hn.out Hin.out; clear hQ2 hK2 hM1))
              all_goals
                obtain ⟨w3, hstep, hM3⟩ := HM1.out.put Hn.out Hin.out (by unfold maxLen; omega)
                have HM3 := Lib.hid hM3
                clear hM3 hget hget2
                obtain ⟨vv, hvv⟩ : ∃ v, (fun y => decide (y = n) || S y) n = v := ⟨_, rfl⟩
                have hget := fun j => (HM3.out.drewN j).st.get Hn.out hvv
                have Hhas := Lib.hid (fun j => has_is (HM3.out.drewN j).st.qu Hn.out hvv)
                clear hvv
                have hlen2 := fun j => (HM3.out.drewN j).st.len
                have g3 : (((k + 1 : Nat) : Int) != ((k + 1 : Nat) : Int)) = false := by simp
                have g4 : (vv != vv) = false := by simp
                have f1 := HM3.out.c1
                go_wp2_with fail
                go_quiet (first | (go_at_call 31; exact quiet_same (len_calls (HM3.out.drewN _).st.qu)) | (go_at_call 29; exact quiet_same (Hhas.out _)))
                go_wp2
                exact ⟨⟨i + 1, by go_num, by omega, by omega, Lib.hid (again_next (HM3.out.drewN _) (by omega) (by omega) (by omega))⟩, by simp [intOf]; omega⟩
      · obtain rfl : i = 100 := by omega
        have d1 : decide (((100 : Nat) : Int) < (len : Int)) = true := decide_eq_true (by omega)
        have d1i : decide ((100 : Int) < (len : Int)) = true := decide_eq_true (by omega)
        have d1n : decide (100 < len) = true := decide_eq_true (by omega)
        obtain ⟨Pr, N, k, b, S, hp, hk, hN, hb, has⟩ := HL.out
        have Hbel := Lib.hid has.bel
        clear has
        go_wp2
        go_ret
        exact ⟨rfl, Hbel.out⟩
    · have d1 : decide ((i : Int) < (len : Int)) = false := decide_eq_false (by omega)
      have d1n : decide (i < len) = false := decide_eq_false (by omega)
      obtain ⟨Pr, N, k, b, S, hp, hk, hN, hb, has⟩ := HL.out
      have Hbel := Lib.hid has.bel
      clear has
      go_wp2
      go_ret
      exact ⟨rfl, Hbel.out⟩
end Go.Proofs.Ytingoaklioplaaa
