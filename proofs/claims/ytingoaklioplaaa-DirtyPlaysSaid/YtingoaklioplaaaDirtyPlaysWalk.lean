/- The walk of DirtyPlays: for any order and any acts it returns true and leaves all old memory as it was. Conditions: the acts lie as the reading says. -/
import Derived.Test.YtingoaklioplaaaDirtyActs
namespace Go.Proofs.Ytingoaklioplaaa
open Go.RowKit
set_option linter.unusedVariables false
/-- The outer loop at its head. -/
def PlayLoop (W : World) (t : Bool) (Q M : Nat) (i : Nat) (mv : Value) (wr : World) : Prop :=
  ∃ (Pr : Nat → Prop) (N : Nat) (hp ml : List Int), ml.length ≤ i ∧ N ≤ i * 1000 ∧ PS Pr W wr Q M N t ml.length (fun y => decide (y ∈ ml)) hp mv ml
/-- In a round: the act lies boxed at bx. -/
def Mid (W : World) (t : Bool) (Q M i : Nat) (mv : Value) (ml : List Int) (bx : Nat) (q n : Int) (w : World) : Prop :=
  ∃ (Pr : Nat → Prop) (N : Nat) (hp : List Int), ml.length ≤ i ∧ N ≤ i * 1000 ∧ PS Pr W w Q M N t ml.length (fun y => decide (y ∈ ml)) hp mv ml ∧ Pr bx ∧ w.cell? ⟨bx, 0, none⟩ = some (.int .i64 q) ∧ w.cell? ⟨bx, 1, none⟩ = some (.int .i64 n)
theorem mid_start {W w : World} {t : Bool} {Q M i N : Nat} {Pr : Nat → Prop} {mv : Value} {hp ml : List Int} {q n : Int} (hml : ml.length ≤ i) (hN : N ≤ i * 1000) (h : PS Pr W w Q M N t ml.length (fun y => decide (y ∈ ml)) hp mv ml) :
    Mid W t Q M i mv ml w.heap.size q n (w.alloc (.cells #[.int .i64 q, .int .i64 n] 50)) := by
  refine ⟨_, N, hp, hml, hN, h.grow (World.grownBy_alloc w _ none), .inr ⟨Nat.le_refl _, by simp⟩, ?_, ?_⟩
  · rw [cell_of_row _ _ 0 _ _ _ (MapKept.heap_alloc w _).1]; rfl
  · rw [cell_of_row _ _ 1 _ _ _ (MapKept.heap_alloc w _).1]; rfl
theorem Mid.drewN {W w : World} {t : Bool} {Q M i : Nat} {mv : Value} {ml : List Int} {bx : Nat} {q n : Int} (h : Mid W t Q M i mv ml bx q n w) (k : Nat) : Mid W t Q M i mv ml bx q n (w.drewN k) := by
  obtain ⟨Pr, N, hp, h1, h2, h3, h4, h5, h6⟩ := h
  exact ⟨Pr, N, hp, h1, h2, h3.drewN k, h4, h5, h6⟩
theorem Mid.c0 {W w : World} {t : Bool} {Q M i : Nat} {mv : Value} {ml : List Int} {bx : Nat} {q n : Int} (h : Mid W t Q M i mv ml bx q n w) : w.cell? ⟨bx, 0, none⟩ = some (.int .i64 q) := by
  obtain ⟨Pr, N, hp, h1, h2, h3, h4, h5, h6⟩ := h
  exact h5
theorem Mid.c1 {W w : World} {t : Bool} {Q M i : Nat} {mv : Value} {ml : List Int} {bx : Nat} {q n : Int} (h : Mid W t Q M i mv ml bx q n w) : w.cell? ⟨bx, 1, none⟩ = some (.int .i64 n) := by
  obtain ⟨Pr, N, hp, h1, h2, h3, h4, h5, h6⟩ := h
  exact h6
theorem Mid.at {W w : World} {t : Bool} {Q M i g cap : Nat} {ml : List Int} {bx : Nat} {q n : Int} (h : Mid W t Q M i (.slice (some ⟨g, 0, none⟩) ml.length cap) ml bx q n w) {j : Nat} (hj : j < ml.length) : w.cell? ⟨g, j, none⟩ = some (.int .i64 (ml.getD j 0)) := by
  obtain ⟨Pr, N, hp, h1, h2, h3, h4, h5, h6⟩ := h
  exact h3.at rfl j hj
theorem Mid.wf {W w : World} {t : Bool} {Q M i : Nat} {mv : Value} {ml : List Int} {bx : Nat} {q n : Int} (h : Mid W t Q M i mv ml bx q n w) {j : Nat} (hj : j < ml.length) : IsI64 (ml.getD j 0) := by
  obtain ⟨Pr, N, hp, h1, h2, h3, h4, h5, h6⟩ := h
  exact wf_getD h3.wf hj
theorem Mid.some {W w : World} {t : Bool} {Q M i cap : Nat} {ma : Option Addr} {ml : List Int} {bx : Nat} {q n : Int} (h : Mid W t Q M i (.slice ma ml.length cap) ml bx q n w) (hj : 0 < ml.length) : ∃ g, ma = some ⟨g, 0, none⟩ := by
  obtain ⟨Pr, N, hp, h1, h2, h3, h4, h5, h6⟩ := h
  rcases h3.slice with ⟨_, h2⟩ | ⟨gm, mc', h1, _⟩
  · rw [h2] at hj; cases hj
  · cases h1; exact ⟨gm, rfl⟩
/-- The state where a round ends well. -/
theorem play_next {W w : World} {t : Bool} {Q M N i : Nat} {Pr : Nat → Prop} {mv : Value} {hp ml : List Int} {S : Int → Bool} {k : Nat} (hml : ml.length ≤ i + 1) (hN : N ≤ (i + 1) * 1000) (h : PS Pr W w Q M N t k S hp mv ml) (hk : k = ml.length) (hS : ∀ y, S y = decide (y ∈ ml)) :
    PlayLoop W t Q M (i + 1) mv w := by
  obtain rfl : S = fun y => decide (y ∈ ml) := funext hS
  subst hk
  exact ⟨Pr, N, hp, ml, hml, hN, h⟩
theorem Keeps.cellAt {Pr : Nat → Prop} {w w' : World} {b j : Nat} {v : Value} (h : Keeps Pr w w') (hb : Pr b) (hc : w.cell? ⟨b, j, none⟩ = some v) : w'.cell? ⟨b, j, none⟩ = some v := (h.cell (p := ⟨b, j, none⟩) hb).trans hc
theorem PS.room {Pr : Nat → Prop} {W w : World} {Q M N k : Nat} {t : Bool} {S : Int → Bool} {hp ml : List Int} {mv : Value} (h : PS Pr W w Q M N t k S hp mv ml) {X : Obj} : W.heap.size + 1 ≤ (w.alloc X).heap.size := by
  have := h.qu.bw _ (h.low W.heap.size (by omega))
  simp; omega
theorem put_ps {Pr : Nat → Prop} {W w w3 : World} {Q M N k : Nat} {t : Bool} {S : Int → Bool} {hp ml : List Int} {mv v' : Value} {n : Int} {X : Obj} (h : PS Pr W w Q M N t k S hp mv ml) (hin : n ∉ ml) (hn : IsI64 n)
    (hown : w3.ownsRow (W.heap.size + 1) 3 1 v' (ml.length + 1) (ml.map (Value.int .i64) ++ [.int .i64 n])) (hg : (w.alloc X).grownBy w3 mv.ownBlock) (hat : v'.ownBlock = mv.ownBlock ∨ v'.ownBlock = some (w.alloc X).heap.size) :
    ∃ Pr' g' cap', v' = .slice (some ⟨g', 0, none⟩) (ml.length + 1) cap' ∧ PS Pr' W w3 Q M N t k S hp v' (ml ++ [n]) := by
  have hg' : w.grownBy w3 mv.ownBlock := ⟨hg.os, hg.tape, hg.output, Nat.le_trans (by simp) hg.size, fun j hj hne => (hg.block j (by simp; omega) hne).trans (Below.heap_alloc w X j hj)⟩
  have hps := h.step (ml' := ml ++ [n]) hg' (fun g e => ⟨h.pr g e, (h.own.lt g e).1⟩) (by rw [List.length_append, List.map_append]; exact hown) (fun g e => by
    rcases hat with ha | ha
    · exact .inl (h.pr g (ha ▸ e))
    · rw [ha] at e
      cases e
      exact .inr (by simp)) (nodup_put h.nd hin) (fun y hy => by
    rcases List.mem_append.1 hy with hy | hy
    · exact h.wf y hy
    · simp at hy; subst hy; exact hn)
  rcases hown.2 with ⟨_, h0⟩ | ⟨g', cap', cur, rfl, _⟩
  · omega
  · exact ⟨_, g', cap', rfl, hps⟩
theorem start_ps {W w1 : World} (t : Bool) (h : Below (W.alloc (.cells #[.bool t] 4)).heap.size (W.alloc (.cells #[.bool t] 4)) w1) :
    PlayLoop W t (w1.heap.size + 1) w1.heap.size 0 (.slice none 0 0) ((w1.alloc (.map #[] 0)).alloc (.cells #[.func (.func 25) #[] #[.pointer (some ⟨W.heap.size, 0, none⟩)], .slice none 0 0, .map (some w1.heap.size)] 67)) := by
  have hs := h.size
  rw [World.size_alloc] at hs
  refine ⟨fun k => k < w1.heap.size, 0, [], [], Nat.le_refl _, Nat.zero_le _, new_qu w1 _ t _ (fun _ h => h) (.inr ⟨W.heap.size, rfl, ?_, by omega⟩), fun j hj => (by omega), World.ownsRow_nil _ _ _ _, (fun g e => (by cases e)), ?_, List.nodup_nil, (fun y hy => (by cases hy))⟩
  · rw [h.cell (p := ⟨W.heap.size, 0, none⟩) (by simp), cell_of_row _ _ 0 _ _ _ (MapKept.heap_alloc W _).1]; rfl
  · have h1 : Below W.heap.size W w1 := ((Below.refl _ W).alloc (Nat.le_refl _) _).trans (h.mono (by simp))
    exact (h1.alloc (by omega) _).alloc (by simp; omega) _
set_option maxRecDepth 8000 in
set_option maxHeartbeats 2000000 in
theorem plays_calls (W : World) (t : Bool) (a : Option Addr) (len cap : Nat) (hl : len ≤ maxLen) (hA : ActsAt W a len) :
    Calls Try.prog 8 #[.bool t, .slice a len cap] W fun e w' => e = .returned (.bool true) ∧ Below W.heap.size W w' := by
  have HA := Lib.hid hA
  clear hA
  obtain ⟨i0, hi, hz0, hz1, hz2⟩ := info_parts Try.info3
  go_enter Try.func8, Try.ntmps8
  go_wp2_with fail
  refine (speaks3 _).mono ?_
  rintro e w1 ⟨rfl, hB1⟩
  have HB1 := Lib.hid hB1
  clear hB1
  go_wp2_with fail
  refine (new_less W.heap.size _).mono ?_
  rintro e w2 ⟨rfl, rfl⟩

  go_wp2
  go_loopw [8, 7] (fun c mv wr => ∃ i : Nat, c = .int .i64 i ∧ i ≤ 80 ∧ i ≤ len ∧ Hid (PlayLoop W t (w1.heap.size + 1) w1.heap.size i mv wr)) (fun c _ _ => 80 - (intOf c).toNat)
  case atStart => exact ⟨0, rfl, by omega, by omega, Lib.hid (start_ps t HB1.out)⟩
  case round =>
    obtain ⟨i, rfl, hi80, hil, HL⟩ := hrel
    by_cases hlt : i < len
    · by_cases hlt8 : i < 80
      · have d1 : decide ((i : Int) < (len : Int)) = true := decide_eq_true (by omega)
        have d1n : decide (i < len) = true := decide_eq_true (by omega)
        have d2 : decide ((i : Int) < 80) = true := decide_eq_true (by omega)
        have d2n : decide (i < 80) = true := decide_eq_true (by omega)
        obtain ⟨g, off, q, n, rfl, hg, hc0, hc1, hq, hn⟩ := HA.out i hlt
        obtain ⟨Pr, N, hp, ml, hml, hN, hps⟩ := HL.out
        have e0 : wr.cell? ⟨g, off + i * 2, none⟩ = some (.int .i64 q) := (hps.bel.cell (p := ⟨g, off + i * 2, none⟩) hg).trans hc0
        have e1 : wr.cell? ⟨g, off + i * 2 + 1, none⟩ = some (.int .i64 n) := (hps.bel.cell (p := ⟨g, off + i * 2 + 1, none⟩) hg).trans hc1
        obtain ⟨ma, mc, rfl⟩ : ∃ ma mc, u7 = .slice ma ml.length mc := by
          rcases hps.slice with ⟨h1, h2⟩ | ⟨gm, mc, h1, _⟩
          · exact ⟨none, 0, by rw [h1, h2]; rfl⟩
          · exact ⟨_, mc, h1⟩
        have Hn := Lib.hid hn
        have Hq := Lib.hid hq
        have hM := Lib.hid (mid_start (q := q) (n := n) hml hN hps)
        clear hps hc0 hc1 hN HL hn hq
        go_wp2_with fail
        go_loopw [11, 10] (fun c c2 wx => ∃ (k : Nat) (at' : Int), c = .int .i64 k ∧ c2 = .int .i64 at' ∧ k ≤ ml.length ∧ Hid (AtIs ml n k at') ∧ Hid (Mid W t (w1.heap.size + 1) w1.heap.size i (.slice ma ml.length mc) ml wr.heap.size q n wx)) (fun c _ _ => ml.length - (intOf c).toNat)
        case atStart => exact ⟨0, -1, rfl, rfl, by omega, Lib.hid (AtIs.zero ml n), hM⟩
        case round =>
          obtain ⟨k, at', rfl, rfl, hk, hat, hMk⟩ := hrel
          by_cases hkl : k < ml.length
          · obtain ⟨gm, hma⟩ := hMk.out.some (Nat.zero_lt_of_lt hkl)
            subst hma
            have f1 := hMk.out.c1
            have f0 := hMk.out.at hkl
            have hwx := hMk.out.wf hkl
            have Hwx := Lib.hid hwx
            clear hwx
            by_cases he : ml.getD k 0 = n
            · have hA1 := Lib.hid (AtIs.hit he)
              rw [he] at f0
              have hbe : ((n : Int) == n) = true := by simp
              clear he
              go_wp2_with fail
              go_quiet (fail)
              go_wp2
              exact ⟨⟨k + 1, k, by go_num, rfl, by omega, hA1, Lib.hid (hMk.out.drewN _)⟩, by simp [intOf]; omega⟩
            · have hA1 := Lib.hid (hat.out.miss he)
              have hbe : ((ml.getD k 0 : Int) == n) = false := beq_eq_false_iff_ne.2 he
              generalize ml.getD k 0 = v at f0 hbe Hwx
              clear he
              go_wp2_with fail
              go_quiet (fail)
              go_wp2
              exact ⟨⟨k + 1, at', by go_num, rfl, by omega, hA1, Lib.hid (hMk.out.drewN _)⟩, by simp [intOf]; omega⟩
          · obtain rfl : k = ml.length := by omega
            have f1 := hMk.out.c1
            have f0 := hMk.out.c0
            obtain ⟨Pr, N, hp, hml, hN, hps, hpb, _⟩ := hMk.out
            have Hps := Lib.hid hps
            have Hpb := Lib.hid hpb
            clear hps hpb
            by_cases h3 : ((wrap64 (q.tmod 6 + 6)).tmod 6 == 3) = true
            · clear f0 f1
              go_wp2_with fail
              go_loopw [15, 14] (fun c c2 wx => ∃ (k : Nat) (v : Int), c = .int .i64 k ∧ c2 = .int .i64 v ∧ k ≤ ml.length ∧ Hid (LeastIs t ml k v) ∧ Hid (PS Pr W wx (w1.heap.size + 1) w1.heap.size N t ml.length (fun y => decide (y ∈ ml)) hp (.slice ma ml.length mc) ml)) (fun c _ _ => ml.length - (intOf c).toNat)
              case atStart => exact ⟨0, -1, rfl, rfl, by omega, Lib.hid (.inl ⟨rfl, rfl⟩), Hps⟩
              case round =>
                obtain ⟨k, v, rfl, rfl, hk, hle, hPk⟩ := hrel
                by_cases hkl : k < ml.length
                · obtain ⟨gm, hma⟩ : ∃ gm, ma = some ⟨gm, 0, none⟩ := by
                    rcases hPk.out.slice with ⟨_, h2⟩ | ⟨gm, mc', h1, _⟩
                    · rw [h2] at hkl; cases hkl
                    · cases h1; exact ⟨gm, rfl⟩
                  subst hma
                  have f0 := hPk.out.at rfl k hkl
                  have Hbox := Lib.hid hPk.out.box
                  rcases hle.out with ⟨rfl, rfl⟩ | ⟨j, hj, rfl, hmin⟩
                  · have hA1 := Lib.hid (LeastIs.first (t := t) (ml := ml))
                    go_wp2_with fail
                    go_quiet (fail)
                    go_wp2
                    exact ⟨⟨1, 0, by go_num, rfl, by omega, hA1, Lib.hid (hPk.out.drewN _)⟩, by simp [intOf]; omega⟩
                  · have f2 := hPk.out.at rfl j (Nat.lt_trans hj hkl)
                    have g2 : decide ((j : Int) < 0) = false := decide_eq_false (by omega)
                    by_cases hlt3 : kap t (ml.getD k 0) < kap t (ml.getD j 0)
                    · have hA1 := Lib.hid (hle.out.lower hlt3)
                      have Hb : Hid (ltB t (ml.getD k 0) (ml.getD j 0) = true) := Lib.hid (decide_eq_true hlt3)
                      clear hlt3 hmin
                      generalize ml.getD k 0 = x at f0 Hb
                      generalize ml.getD j 0 = y at f2 Hb
                      go_wp2_with fail
                      go_quiet ((go_at_call 25; exact quiet_same (less2 Hb.out Hbox.out)))
                      go_wp2
                      exact ⟨⟨k + 1, k, by go_num, rfl, by omega, hA1, Lib.hid (hPk.out.drewN _)⟩, by simp [intOf]; omega⟩
                    · have hA1 := Lib.hid (hle.out.stay hlt3)
                      have Hb : Hid (ltB t (ml.getD k 0) (ml.getD j 0) = false) := Lib.hid (decide_eq_false hlt3)
                      clear hlt3 hmin
                      generalize ml.getD k 0 = x at f0 Hb
                      generalize ml.getD j 0 = y at f2 Hb
                      go_wp2_with fail
                      go_quiet ((go_at_call 25; exact quiet_same (less2 Hb.out Hbox.out)))
                      go_wp2
                      exact ⟨⟨k + 1, j, by go_num, rfl, by omega, hA1, Lib.hid (hPk.out.drewN _)⟩, by simp [intOf]; omega⟩
                · obtain rfl : k = ml.length := by omega
                  rcases hle.out with ⟨h0, rfl⟩ | ⟨j, hj, rfl, hmin⟩
                  · have hnil : ml = [] := List.eq_nil_of_length_eq_zero h0
                    subst hnil
                    go_wp2_with fail
                    refine (pop_none hPk.out.qu).mono ?_
                    rintro e w' ⟨rfl, rfl⟩
                    go_wp2_with fail
                    refine (len_calls hPk.out.qu).mono ?_
                    rintro e w' ⟨rfl, rfl⟩
                    go_wp2
                    refine ⟨⟨i + 1, by go_num, by omega, by omega, Lib.hid (play_next (by omega) (by omega) hPk.out rfl (fun y => rfl))⟩, by simp [intOf]; omega⟩
                  · obtain ⟨gm, hma⟩ : ∃ gm, ma = some ⟨gm, 0, none⟩ := by
                      rcases hPk.out.slice with ⟨_, h2⟩ | ⟨gm, mc', h1, _⟩
                      · rw [h2] at hj; cases hj
                      · cases h1; exact ⟨gm, rfl⟩
                    subst hma
                    have hq' := hPk.out.qu
                    rw [show ml.length = ml.length - 1 + 1 by omega] at hq'
                    obtain ⟨_, hm1, hm2⟩ := hq'.min
                    have hx : hp.getD 0 0 = ml.getD j 0 := by
                      have hmem : hp.getD 0 0 ∈ ml := by simpa using hm1
                      obtain ⟨z, hz, hze⟩ := List.getElem_of_mem hmem
                      have h1 := hmin z hz
                      have h2 := hm2 (ml.getD j 0) (by simpa using List.mem_of_getElem? (getD_of hj))
                      rw [show ml.getD z 0 = hp.getD 0 0 by rw [List.getD_eq_getElem?_getD, List.getElem?_eq_getElem hz, hze]; rfl] at h1
                      exact kap_inj (Int.le_antisymm h2 h1)
                    have Hq' := Lib.hid hq'
                    have Hx := Lib.hid hx
                    have g1 : decide ((0 : Int) ≤ (j : Int)) = true := decide_eq_true (by omega)
                    have g2 : decide ((j : Int) < 0) = false := decide_eq_false (by omega)
                    clear hq' hx hm1 hm2 hmin
                    go_wp2_with fail
                    refine (pop_some Hq'.out (by omega) (by omega)).mono ?_
                    rw [Hx.out]
                    rintro e w' ⟨hp2, N2, rfl, hQ2, hN2, hK2⟩
                    have HP2 := Lib.hid (hPk.out.queue hQ2 hK2)
                    clear hQ2 hK2
                    have f2 := HP2.out.at rfl j hj
                    have hne : ((ml.getD j 0 : Int) != ml.getD j 0) = false := by simp
                    go_wp2_with fail
                    have hmc : ml.length ≤ mc := HP2.out.capOk
                    have hj1 : j + 1 ≤ ml.length := hj
                    have hjm : j ≤ mc := by omega
                    have hjw : IntKind.i64.wrap ((j : Int) + 1) = (j : Int) + 1 := by
                      have : ml.length ≤ 80 := by omega
                      exact IntWalk.i64_in _ ⟨by omega, by omega⟩
                    have hji0 : (0 : Int) ≤ (j : Int) + 1 := by omega
                    have hji1 : (j : Int) + 1 ≤ (ml.length : Int) := by omega
                    have hji2 : (j : Int) ≤ (j : Int) + 1 := by omega
                    have hjt : ((j : Int) + 1).toNat = j + 1 := by omega
                    by_cases hmj : mc = j + 1
                    · subst hmj
                      obtain ⟨v1, w3, w4, Pr4, ma4, mc4, hr1, hr2, hps4⟩ := cut_run HP2.out hj (by omega) _ rfl
                      have HP4 := Lib.hid hps4
                      clear hps4
                      rw [if_pos rfl, Nat.sub_self, show ml.length - (j + 1) = 0 by omega] at hr2
                      go_region_law (first | refine step_append_eq (by rfl) _ _ _ (by rfl) _ _ _ (by rfl) (by rfl) hr1 ?_ | refine step_append_eq (by rfl) _ _ _ (by rfl) _ _ _ (by rfl) (by rfl) hr2 ?_)
                      all_goals
                        go_wp2_with fail
                        refine (len_calls HP4.out.qu).mono ?_
                        rintro e w5 ⟨rfl, rfl⟩
                        go_wp2
                        refine ⟨⟨i + 1, by go_num, by omega, by omega, Lib.hid (play_next (by rw [cut_len hj]; omega) (by omega) HP4.out (cut_len hj).symm (cut_mem HP2.out.nd hj rfl))⟩, by simp [intOf]; omega⟩
                    · obtain ⟨v1, w3, w4, Pr4, ma4, mc4, hr1, hr2, hps4⟩ := cut_run HP2.out hj (by omega) _ rfl
                      have HP4 := Lib.hid hps4
                      clear hps4
                      rw [if_neg hmj] at hr2
                      go_region_law (first | refine step_append_eq (by rfl) _ _ _ (by rfl) _ _ _ (by rfl) (by rfl) hr1 ?_ | refine step_append_eq (by rfl) _ _ _ (by rfl) _ _ _ (by rfl) (by rfl) hr2 ?_)
                      all_goals
                        go_wp2_with fail
                        refine (len_calls HP4.out.qu).mono ?_
                        rintro e w5 ⟨rfl, rfl⟩
                        go_wp2
                        refine ⟨⟨i + 1, by go_num, by omega, by omega, Lib.hid (play_next (by rw [cut_len hj]; omega) (by omega) HP4.out (cut_len hj).symm (cut_mem HP2.out.nd hj rfl))⟩, by simp [intOf]; omega⟩
            · have h3f : ((wrap64 (q.tmod 6 + 6)).tmod 6 == 3) = false := Bool.eq_false_iff.2 h3
              clear h3
              by_cases hin : n ∈ ml
              · obtain ⟨j, hj, rfl, hjn⟩ := hat.out.some hin
                have g1 : decide ((0 : Int) ≤ (j : Int)) = true := decide_eq_true (by omega)
                have g2 : decide ((j : Int) < 0) = false := decide_eq_false (by omega)
                have Hjn := Lib.hid hjn
                have Hin := Lib.hid hin
                clear hjn hin
                by_cases h4 : ((wrap64 (q.tmod 6 + 6)).tmod 6 == 4) = true
                · obtain ⟨gm, hma⟩ := hMk.out.some (Nat.zero_lt_of_lt hj)
                  subst hma
                  have hq' := Hps.out.qu
                  rw [show ml.length = ml.length - 1 + 1 by omega] at hq'
                  have Hq' := Lib.hid hq'
                  clear hq'
                  go_wp2_with fail
                  refine (rem_yes Hq'.out Hn.out (by simp [Hin.out]) (by omega) (by omega)).mono ?_
                  rintro e w' ⟨hp2, N2, rfl, hQ2, hN2, hK2⟩
                  have HP2 := Lib.hid (Hps.out.queue hQ2 hK2)
                  clear hQ2 hK2
                  have hrow := HP2.out.slice
                  go_wp2_with fail
                  have hmc : ml.length ≤ mc := HP2.out.capOk
                  have hj1 : j + 1 ≤ ml.length := hj
                  have hjm : j ≤ mc := by omega
                  have hjw : IntKind.i64.wrap ((j : Int) + 1) = (j : Int) + 1 := by
                    have : ml.length ≤ 80 := by omega
                    exact IntWalk.i64_in _ ⟨by omega, by omega⟩
                  have hji0 : (0 : Int) ≤ (j : Int) + 1 := by omega
                  have hji1 : (j : Int) + 1 ≤ (ml.length : Int) := by omega
                  have hji2 : (j : Int) ≤ (j : Int) + 1 := by omega
                  have hjt : ((j : Int) + 1).toNat = j + 1 := by omega
                  by_cases hmj : mc = j + 1
                  · subst hmj
                    obtain ⟨v1, w3, w4, Pr4, ma4, mc4, hr1, hr2, hps4⟩ := cut_run HP2.out hj (by omega) _ rfl
                    have HP4 := Lib.hid hps4
                    clear hps4
                    rw [if_pos rfl, Nat.sub_self, show ml.length - (j + 1) = 0 by omega] at hr2
                    go_region_law (first | refine step_append_eq (by rfl) _ _ _ (by rfl) _ _ _ (by rfl) (by rfl) hr1 ?_ | refine step_append_eq (by rfl) _ _ _ (by rfl) _ _ _ (by rfl) (by rfl) hr2 ?_)
                    all_goals
                      go_wp2_with fail
                      refine (len_calls HP4.out.qu).mono ?_
                      rintro e w5 ⟨rfl, rfl⟩
                      go_wp2
                      refine ⟨⟨i + 1, by go_num, by omega, by omega, Lib.hid (play_next (by rw [cut_len hj]; omega) (by omega) HP4.out (cut_len hj).symm (cut_mem HP2.out.nd hj Hjn.out))⟩, by simp [intOf]; omega⟩
                  · obtain ⟨v1, w3, w4, Pr4, ma4, mc4, hr1, hr2, hps4⟩ := cut_run HP2.out hj (by omega) _ rfl
                    have HP4 := Lib.hid hps4
                    clear hps4
                    rw [if_neg hmj] at hr2
                    go_region_law (first | refine step_append_eq (by rfl) _ _ _ (by rfl) _ _ _ (by rfl) (by rfl) hr1 ?_ | refine step_append_eq (by rfl) _ _ _ (by rfl) _ _ _ (by rfl) (by rfl) hr2 ?_)
                    all_goals
                      go_wp2_with fail
                      refine (len_calls HP4.out.qu).mono ?_
                      rintro e w5 ⟨rfl, rfl⟩
                      go_wp2
                      refine ⟨⟨i + 1, by go_num, by omega, by omega, Lib.hid (play_next (by rw [cut_len hj]; omega) (by omega) HP4.out (cut_len hj).symm (cut_mem HP2.out.nd hj Hjn.out))⟩, by simp [intOf]; omega⟩
                · have h4f : ((wrap64 (q.tmod 6 + 6)).tmod 6 == 4) = false := Bool.eq_false_iff.2 h4
                  clear h4
                  by_cases h5 : ((wrap64 (q.tmod 6 + 6)).tmod 6 == 5) = true
                  · go_wp2_with fail
                    refine (has_is Hps.out.qu Hn.out (v := true) (by simp [Hin.out])).mono ?_
                    rintro e w' ⟨rfl, rfl⟩
                    go_wp2_with fail
                    refine (len_calls Hps.out.qu).mono ?_
                    rintro e w' ⟨rfl, rfl⟩
                    go_wp2
                    refine ⟨⟨i + 1, by go_num, by omega, by omega, Lib.hid (play_next (by omega) (by omega) Hps.out rfl (fun y => rfl))⟩, by simp [intOf]; omega⟩
                  · have h5f : ((wrap64 (q.tmod 6 + 6)).tmod 6 == 5) = false := Bool.eq_false_iff.2 h5
                    clear h5
                    go_wp2_with fail
                    refine (push_no Hps.out.qu Hn.out (by simp [Hin.out])).mono ?_
                    rintro e w' ⟨rfl, rfl⟩
                    go_wp2_with fail
                    refine (len_calls Hps.out.qu).mono ?_
                    rintro e w' ⟨rfl, rfl⟩
                    go_wp2
                    refine ⟨⟨i + 1, by go_num, by omega, by omega, Lib.hid (play_next (by omega) (by omega) Hps.out rfl (fun y => rfl))⟩, by simp [intOf]; omega⟩
              · obtain rfl := hat.out.none hin
                have Hin := Lib.hid hin
                clear hin
                by_cases h4 : ((wrap64 (q.tmod 6 + 6)).tmod 6 == 4) = true
                · go_wp2_with fail
                  refine (rem_no Hps.out.qu Hn.out (by simp [Hin.out])).mono ?_
                  rintro e w' ⟨rfl, rfl⟩
                  go_wp2_with fail
                  refine (len_calls Hps.out.qu).mono ?_
                  rintro e w' ⟨rfl, rfl⟩
                  go_wp2
                  refine ⟨⟨i + 1, by go_num, by omega, by omega, Lib.hid (play_next (by omega) (by omega) Hps.out rfl (fun y => rfl))⟩, by simp [intOf]; omega⟩
                · have h4f : ((wrap64 (q.tmod 6 + 6)).tmod 6 == 4) = false := Bool.eq_false_iff.2 h4
                  clear h4
                  by_cases h5 : ((wrap64 (q.tmod 6 + 6)).tmod 6 == 5) = true
                  · go_wp2_with fail
                    refine (has_is Hps.out.qu Hn.out (v := false) (by simp [Hin.out])).mono ?_
                    rintro e w' ⟨rfl, rfl⟩
                    go_wp2_with fail
                    refine (len_calls Hps.out.qu).mono ?_
                    rintro e w' ⟨rfl, rfl⟩
                    go_wp2
                    refine ⟨⟨i + 1, by go_num, by omega, by omega, Lib.hid (play_next (by omega) (by omega) Hps.out rfl (fun y => rfl))⟩, by simp [intOf]; omega⟩
                  · have h5f : ((wrap64 (q.tmod 6 + 6)).tmod 6 == 5) = false := Bool.eq_false_iff.2 h5
                    clear h5
                    go_wp2_with fail
                    refine (push_yes Hps.out.qu Hn.out (by simp [Hin.out]) (by omega) (by omega)).mono ?_
                    rintro e w' ⟨hp2, N2, rfl, hQ2, hN2, hK2⟩
                    have HQ2 := Lib.hid hQ2
                    have HK2 := Lib.hid hK2
                    clear hQ2 hK2
                    have f2 := HK2.out.cellAt Hpb.out f1
                    have HP2 := Lib.hid (Hps.out.queue HQ2.out HK2.out)
                    go_wp2_with (at_builtin; refine wpList_append_own_at _ rfl _ _ 48 rfl (W.heap.size + 1) 3 i0 (.int .i64 0) 1 8 Try.underlying48 hi hz0 hz1 hz2 rfl (by decide) _ _ _ rfl (HP2.out.own.alloc _) ⟨w'.heap.size, 0, none⟩ 1 1 [.int .i64 n] rfl rfl (cell_one_new _ _ _) (by simp [Value.oneCell']) (by unfold maxLen; omega) (by omega) HP2.out.room ?_; intro v' w3 hown3 hgrow3 _ hat3; obtain ⟨Pr3, g3, mc3, rfl, hps3⟩ := put_ps HP2.out Hin.out Hn.out hown3 hgrow3 hat3; have HP3 := Lib.hid hps3; clear hown3 hgrow3 hat3 hps3)
                    refine (len_calls HP3.out.qu).mono ?_
                    rintro e w4 ⟨rfl, rfl⟩
                    go_wp2
                    refine ⟨⟨i + 1, by go_num, by omega, by omega, Lib.hid (play_next (by simp; omega) (by omega) HP3.out (by simp) (fun y => by simp [or_comm]))⟩, by simp [intOf]; omega⟩
      · obtain rfl : i = 80 := by omega
        have d1 : decide (((80 : Nat) : Int) < (len : Int)) = true := decide_eq_true (by omega)
        have d1i : decide ((80 : Int) < (len : Int)) = true := decide_eq_true (by omega)
        have d1n : decide (80 < len) = true := decide_eq_true (by omega)
        obtain ⟨Pr, N, hp, ml, hml, hN, hps⟩ := HL.out
        have Hbel := Lib.hid hps.bel
        clear hps
        go_wp2_with fail
        refine (nil_pop _).mono ?_
        rintro e w' ⟨rfl, rfl⟩
        go_wp2_with fail
        refine (nil_push _ _).mono ?_
        rintro e w' ⟨rfl, rfl⟩
        go_wp2_with fail
        refine (nil_rem _ _).mono ?_
        rintro e w' ⟨rfl, rfl⟩
        go_wp2_with fail
        refine (nil_has _ _).mono ?_
        rintro e w' ⟨rfl, rfl⟩
        go_wp2_with fail
        refine (nil_len _).mono ?_
        rintro e w' ⟨rfl, rfl⟩
        go_wp2
        go_ret
        exact ⟨rfl, Hbel.out⟩
    · have d1 : decide ((i : Int) < (len : Int)) = false := decide_eq_false (by omega)
      have d1n : decide (i < len) = false := decide_eq_false (by omega)
      obtain ⟨Pr, N, hp, ml, hml, hN, hps⟩ := HL.out
      have Hbel := Lib.hid hps.bel
      clear hps
      go_wp2_with fail
      refine (nil_pop _).mono ?_
      rintro e w' ⟨rfl, rfl⟩
      go_wp2_with fail
      refine (nil_push _ _).mono ?_
      rintro e w' ⟨rfl, rfl⟩
      go_wp2_with fail
      refine (nil_rem _ _).mono ?_
      rintro e w' ⟨rfl, rfl⟩
      go_wp2_with fail
      refine (nil_has _ _).mono ?_
      rintro e w' ⟨rfl, rfl⟩
      go_wp2_with fail
      refine (nil_len _).mono ?_
      rintro e w' ⟨rfl, rfl⟩
      go_wp2
      go_ret
      exact ⟨rfl, Hbel.out⟩
end Go.Proofs.Ytingoaklioplaaa
