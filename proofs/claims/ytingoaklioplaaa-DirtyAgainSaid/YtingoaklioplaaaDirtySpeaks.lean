/- The walk of the law's speaks for package dirty: it answers true; a new queue is empty; the least number stands first. No condition. -/
import Derived.Test.YtingoaklioplaaaDirtyOps
namespace Go.Proofs.Ytingoaklioplaaa
open Go.RowKit
set_option linter.unusedVariables false

theorem Qu.min {Pr : Nat → Prop} {Q M N k : Nat} {w : World} {F : Value} {t : Bool} {S : Int → Bool} {hp : List Int} (h : Qu Pr w Q M N F t (k + 1) S hp) :
    IsI64 (hp.getD 0 0) ∧ S (hp.getD 0 0) = true ∧ ∀ y, S y = true → kap t (hp.getD 0 0) ≤ kap t y := by
  obtain ⟨sv, f, hQ, hE, hf⟩ := h.ex
  have hlen := h.len
  refine ⟨wf_getD hQ.wf (by omega), ?_, fun y hy => ?_⟩
  · rw [← hf, (hE _ 0).2 (getD_of (by omega))]; rfl
  · rw [← hf] at hy
    obtain ⟨j, hj⟩ := Option.isSome_iff_exists.1 hy
    have hat := (hE y j).1 hj
    have hjl : j < hp.length := (List.getElem?_eq_some_iff.1 hat).1
    have := h.heap.least j j (Nat.le_refl _) hjl
    rw [getD_of hjl] at hat
    rw [← Option.some.inj hat]
    exact this
theorem new_qu (w : World) (F : Value) (t : Bool) (Pr : Nat → Prop) (hO : Old Pr w) (hF : LessIs w F t Pr) :
    Qu Pr ((w.alloc (.map #[] 0)).alloc (.cells #[F, .slice none 0 0, .map (some w.heap.size)] 67)) (w.heap.size + 1) w.heap.size 0 F t 0 (fun _ => false) [] := by
  have hO1 : Old Pr (w.alloc (.map #[] 0)) := hO.up (by simp)
  have hB : Keeps Pr w ((w.alloc (.map #[] 0)).alloc (.cells #[F, .slice none 0 0, .map (some w.heap.size)] 67)) := ((Keeps.refl _ w).alloc hO _).alloc hO1 _
  refine ⟨⟨_, fun _ => none, ⟨?_, World.ownsRow_nil _ _ _ _, (MapAt.made w).kept (World.grownBy_alloc _ _ none) (fun e => (by cases e)), (fun hk => by have := hO _ hk; omega), (fun hk => by have := hO _ hk; omega), (fun e => (by cases e)), (fun g e => (by cases e)), (fun n hn => (by cases hn)), hF.on hB⟩, fun m j => ?_, fun y => rfl⟩, fun j _ hj => by simp at hj, rfl, hO.up hB.size⟩
  · have h := (MapKept.heap_alloc (w.alloc (.map #[] 0)) (.cells #[F, .slice none 0 0, .map (some w.heap.size)] 67)).1
    rw [World.size_alloc] at h
    exact h
  · simp

theorem has_is {Pr : Nat → Prop} {Q M N k : Nat} {w : World} {F : Value} {t : Bool} {S : Int → Bool} {hp : List Int} (h : Qu Pr w Q M N F t k S hp) {n : Int} (hn : IsI64 n) {v : Bool} (hv : S n = v) :
    Calls Try.prog 29 #[.pointer (some ⟨Q, 0, none⟩), .int .i64 n] w fun e w' => e = .returned (.bool v) ∧ w = w' := by
  rw [← hv]; exact has_calls h hn
set_option maxHeartbeats 1000000 in
theorem speaks3 (w : World) : Calls Try.prog 24 #[] w fun e w' => e = .returned (.bool true) ∧ Below w.heap.size w w' := by
  have i1 : IsI64 1 := ⟨by decide, by decide⟩
  have i2 : IsI64 2 := ⟨by decide, by decide⟩
  have i3 : IsI64 3 := ⟨by decide, by decide⟩
  have I1 := Lib.hid i1
  have I2 := Lib.hid i2
  have I3 := Lib.hid i3
  clear i1 i2 i3
  go_enter Try.func24, Try.ntmps24
  go_wp2_with fail
  refine (new_nil _).mono ?_
  rintro e w1 ⟨rfl, rfl⟩
  have hq0 := Lib.hid (new_qu w (.func (.func 36) #[] #[]) false (fun k => k < w.heap.size) (fun _ h => h) (.inl ⟨rfl, rfl⟩))
  have hb0 : Keeps (fun k => k < w.heap.size) w ((w.alloc (.map #[] 0)).alloc (.cells #[.func (.func 36) #[] #[], .slice none 0 0, .map (some w.heap.size)] 67)) := ((Keeps.refl _ w).alloc (fun _ h => h) _).alloc (fun k h => by simp; omega) _
  have Hb0 := Lib.hid hb0
  clear hb0
  go_wp2_with fail
  refine (push_yes hq0.out I3.out rfl (by decide) (by decide)).mono ?_
  rintro e w2 ⟨hp2, N2, rfl, hQ2, hN2, hB2⟩
  have HQ2 := Lib.hid hQ2
  have HB2 := Lib.hid (Hb0.out.trans hB2)
  clear hQ2 hB2
  go_wp2_with fail
  refine (push_yes HQ2.out I1.out (by decide) (by decide) (by omega)).mono ?_
  rintro e w3 ⟨hp3, N3, rfl, hQ3, hN3, hB3⟩
  have HQ3 := Lib.hid hQ3
  have HB3 := Lib.hid (HB2.out.trans hB3)
  clear hQ3 hB3
  go_wp2_with fail
  refine (push_yes HQ3.out I2.out (by decide) (by decide) (by omega)).mono ?_
  rintro e w4 ⟨hp4, N4, rfl, hQ4, hN4, hB4⟩
  have HQ4 := Lib.hid hQ4
  have HB4 := Lib.hid (HB3.out.trans hB4)
  clear hQ4 hB4
  go_wp2_with fail
  refine (push_no HQ4.out I1.out (by decide)).mono ?_
  rintro e w5 ⟨rfl, rfl⟩
  have hmin := HQ4.out.min
  have h0 : hp4.getD 0 0 = 1 := by
    have a := hmin.2.1
    have b := hmin.2.2 1 (by decide)
    generalize hp4.getD 0 0 = z at a b
    simp [kap] at a b
    omega
  have H0 := Lib.hid h0
  clear hmin h0
  go_wp2_with fail
  refine (pop_some HQ4.out (by decide) (by omega)).mono ?_
  rw [H0.out]
  rintro e w6 ⟨hp6, N6, rfl, hQ6, hN6, hB6⟩
  have HQ6 := Lib.hid hQ6
  have HB6 := Lib.hid (HB4.out.trans hB6)
  clear hQ6 hB6
  go_wp2_with fail
  refine (len_calls HQ6.out).mono ?_
  rintro e w7 ⟨rfl, rfl⟩
  go_wp2_with fail
  refine (has_is HQ6.out I3.out (v := true) (by decide)).mono ?_
  rintro e w8 ⟨rfl, rfl⟩
  go_wp2_with fail
  refine (has_is HQ6.out I1.out (v := false) (by decide)).mono ?_
  rintro e w9 ⟨rfl, rfl⟩
  go_wp2
  go_ret
  exact ⟨rfl, HB6.out.below (fun _ h => h)⟩
end Go.Proofs.Ytingoaklioplaaa
