/- The walk of the statement PackReads: it answers true. Condition: the text's length fits an int. -/
import Derived.Test.YtingoaklioplaaaPackAll
namespace Go.Proofs.Ytingoaklioplaaa
open Go.RowKit Go.Shelf
attribute [local go_sem] Oper.semAt_some
set_option linter.unusedVariables false

theorem all_calls (s : ByteArray) (w : World) : Calls Try.prog 22 #[.string s] w fun e w' => e = .returned (.func (.func 35) #[] #[.pointer (some ⟨w.heap.size, 0, none⟩)]) ∧ w' = w.alloc (.cells #[.string s] 9) := by
  go_enter Try.func22, Try.ntmps22
  go_wp2
  go_ret
  exact ⟨rfl, rfl⟩

/-- The cells of a slice of texts. -/
def RowIs (a : Option Addr) (l : List ByteArray) (w : World) : Prop :=
  ∀ i (hi : i < l.length), ∃ g, a = some ⟨g, 0, none⟩ ∧ g < w.heap.size ∧ w.cell? ⟨g, i, none⟩ = some (.string l[i])
theorem own_shape {w : World} {B : Nat} {v : Value} {l : List ByteArray} (h : w.ownsRow B 9 1 v l.length (l.map .string)) :
    ∃ a cap, v = .slice a l.length cap ∧ RowIs a l w := by
  by_cases h0 : 0 < l.length
  · obtain ⟨g, cap, rfl, _, hg, hc⟩ := own_some h h0
    exact ⟨_, _, rfl, fun i hi => ⟨g, rfl, hg, by rw [hc i (by simpa using hi)]; simp⟩⟩
  · rcases h.2 with ⟨rfl, hn⟩ | ⟨g, cap, cur, rfl, _⟩
    · exact ⟨none, 0, by rw [hn], fun i hi => absurd hi (by omega)⟩
    · exact ⟨_, _, rfl, fun i hi => absurd hi (by omega)⟩
theorem RowIs.below {a : Option Addr} {l : List ByteArray} {w w' : World} (h : RowIs a l w) (hB : Below w.heap.size w w') : RowIs a l w' := fun i hi => by
  obtain ⟨g, ha, hg, hc⟩ := h i hi
  exact ⟨g, ha, Nat.lt_of_lt_of_le hg hB.size, (hB.cell (p := ⟨g, i, none⟩) hg).trans hc⟩

theorem cell_new_l (w : World) (v : Value) (t : TypeId) : (w.alloc (.cells #[v] t)).cell? ⟨w.heap.size, 0, none⟩ = some v ∧ (w.alloc (.cells #[v] t)).frozen? ⟨w.heap.size, 0, none⟩ = false := by
  constructor <;> simp [go_sem]
theorem lt_of_cell {w : World} {a : Addr} {v : Value} (h : w.cell? a = some v) : a.block < w.heap.size := by
  rcases Nat.lt_or_ge a.block w.heap.size with h' | h'
  · exact h'
  · have : w.heap[a.block]? = none := Array.getElem?_eq_none h'
    simp [World.cell?, this] at h
theorem cell_alloc_l {w : World} {a : Addr} {v : Value} (o : Obj) (h : w.cell? a = some v) : (w.alloc o).cell? a = some v :=
  (((Below.refl w.heap.size w).alloc (Nat.le_refl _) o).cell (lt_of_cell h)).trans h
theorem frozen_alloc_l {w : World} {a : Addr} (o : Obj) (h : a.block < w.heap.size) : (w.alloc o).frozen? a = w.frozen? a :=
  ((Below.refl w.heap.size w).alloc (Nat.le_refl _) o).frozen h
theorem undef_bool {b : Bool} (h : some undef = some (Value.bool b)) : False := by cases h
theorem pos_of {n : Nat} {pre : List (Fin n)} {x : Fin n} (h : (pre ++ [x]).map (·.val) = List.range (pre ++ [x]).length) : x.val = pre.length := by
  rw [List.length_append, List.map_append] at h
  have e : List.range (pre.length + [x].length) = List.range pre.length ++ [pre.length] := List.range_succ
  rw [e] at h
  have := (List.append_inj' h rfl).2
  simpa using this
theorem pos_on {n : Nat} {pre : List (Fin n)} {x : Fin n} (h : pre.map (·.val) = List.range pre.length) (hx : x.val = pre.length) : (pre ++ [x]).map (·.val) = List.range (pre ++ [x]).length := by
  rw [List.length_append, List.map_append, h]
  have e : List.range (pre.length + [x].length) = List.range pre.length ++ [pre.length] := List.range_succ
  rw [e]
  simp [hx]
/-- The cells of a slice of texts, in blocks below N. -/
def RowIn (N : Nat) (a : Option Addr) (l : List ByteArray) (w : World) : Prop :=
  ∀ i (hi : i < l.length), ∃ g, a = some ⟨g, 0, none⟩ ∧ g < N ∧ w.cell? ⟨g, i, none⟩ = some (.string l[i])
theorem RowIn.grown {N : Nat} {a : Option Addr} {l : List ByteArray} {A B : World} {row : Option Nat} (h : RowIn N a l A) (hg : A.grownBy B row) (hr : ∀ r, row = some r → ∃ o : Obj, A.heap[r]? = some o ∧ o.isCells = false) : RowIn N a l B := fun i hi => by
  obtain ⟨g, ha, hn, hc⟩ := h i hi
  exact ⟨g, ha, hn, cell_kept hc hg hr⟩
theorem RowIn.setCell {N : Nat} {a : Option Addr} {l : List ByteArray} {A : World} {p : Addr} (h : RowIn N a l A) (hp : N ≤ p.block) (v : Value) : RowIn N a l (A.setCell p v) := fun i hi => by
  obtain ⟨g, ha, hn, hc⟩ := h i hi
  exact ⟨g, ha, hn, (World.cell?_of_block (w := A) (Below.heap_setCell A p v g (by omega))).trans hc⟩
theorem RowIn.alloc {N : Nat} {a : Option Addr} {l : List ByteArray} {A : World} (h : RowIn N a l A) (o : Obj) : RowIn N a l (A.alloc o) := fun i hi => by
  obtain ⟨g, ha, hn, hc⟩ := h i hi
  exact ⟨g, ha, hn, cell_alloc_l o hc⟩
/-- The cells that the law's loop reads. -/
structure Scene (B0 B2 B3 : Nat) (v1 v2 : Value) (whole : Bool) (W : World) : Prop where
  c0 : W.cell? ⟨B0, 0, none⟩ = some (.bool false)
  f0 : W.frozen? ⟨B0, 0, none⟩ = false
  c1 : W.cell? ⟨B2, 0, none⟩ = some v1
  c2 : W.cell? ⟨B2 + 1, 0, none⟩ = some (.bool whole)
  c3 : W.cell? ⟨B3, 0, none⟩ = some v2
theorem Scene.grown {B0 B2 B3 : Nat} {v1 v2 : Value} {whole : Bool} {A B : World} {row : Option Nat} (h : Scene B0 B2 B3 v1 v2 whole A) (hg : A.grownBy B row) (hr : ∀ r, row = some r → ∃ o : Obj, A.heap[r]? = some o ∧ o.isCells = false) : Scene B0 B2 B3 v1 v2 whole B :=
  ⟨cell_kept h.c0 hg hr, (frozen_kept h.c0 hg hr).trans h.f0, cell_kept h.c1 hg hr, cell_kept h.c2 hg hr, cell_kept h.c3 hg hr⟩
theorem cell_setCell_l {A : World} {a p : Addr} {v : Value} (u : Value) (h : A.cell? a = some v) (hp : a.block ≠ p.block) : (A.setCell p u).cell? a = some v :=
  (World.cell?_of_block (w := A) (Below.heap_setCell A p u a.block hp)).trans h
theorem Scene.setCell {B0 B2 B3 : Nat} {v1 v2 : Value} {whole : Bool} {A : World} (h : Scene B0 B2 B3 v1 v2 whole A) {p : Addr} (q0 : B0 ≠ p.block) (q1 : B2 ≠ p.block) (q2 : B2 + 1 ≠ p.block) (q3 : B3 ≠ p.block) (u : Value) : Scene B0 B2 B3 v1 v2 whole (A.setCell p u) :=
  ⟨cell_setCell_l u h.c0 q0, by rw [World.frozen?_setCell]; exact h.f0, cell_setCell_l u h.c1 q1, cell_setCell_l u h.c2 q2, cell_setCell_l u h.c3 q3⟩
theorem Scene.alloc {B0 B2 B3 : Nat} {v1 v2 : Value} {whole : Bool} {A : World} (h : Scene B0 B2 B3 v1 v2 whole A) (o : Obj) : Scene B0 B2 B3 v1 v2 whole (A.alloc o) :=
  ⟨cell_alloc_l o h.c0, (frozen_alloc_l o (lt_of_cell h.c0)).trans h.f0, cell_alloc_l o h.c1, cell_alloc_l o h.c2, cell_alloc_l o h.c3⟩
theorem RowIs.within {a : Option Addr} {l : List ByteArray} {w : World} (h : RowIs a l w) : RowIn w.heap.size a l w := h
theorem start_facts {w3 : World} {v2 : Value} (s : ByteArray) (n : Int) :
    (((w3.alloc (.cells #[v2] 32)).alloc (.cells #[.int .i64 n] 3)).alloc (.cells #[.string s] 9)).cell? ⟨w3.heap.size + 1, 0, none⟩ = some (.int .i64 n) ∧
    (((w3.alloc (.cells #[v2] 32)).alloc (.cells #[.int .i64 n] 3)).alloc (.cells #[.string s] 9)).frozen? ⟨w3.heap.size + 1, 0, none⟩ = false ∧ True := by
  have h := cell_new_l (w3.alloc (.cells #[v2] 32)) (.int .i64 n) 3
  rw [World.size_alloc] at h
  exact ⟨cell_alloc_l _ h.1, (frozen_alloc_l _ (by simp)).trans h.2, trivial⟩
theorem scene_start {B0 B2 : Nat} {w3 : World} {v1 v2 : Value} {whole : Bool} {o o' : Obj} (c0 : w3.cell? ⟨B0, 0, none⟩ = some (.bool false)) (f0 : w3.frozen? ⟨B0, 0, none⟩ = false) (c1 : w3.cell? ⟨B2, 0, none⟩ = some v1) (c2 : w3.cell? ⟨B2 + 1, 0, none⟩ = some (.bool whole)) :
    Scene B0 B2 w3.heap.size v1 v2 whole (((w3.alloc (.cells #[v2] 32)).alloc o).alloc o') :=
  Scene.alloc (Scene.alloc ⟨cell_alloc_l _ c0, (frozen_alloc_l _ (lt_of_cell c0)).trans f0, cell_alloc_l _ c1, cell_alloc_l _ c2, (cell_new_l w3 v2 32).1⟩ _) _
theorem reads_facts {w w1 w2 w3 : World} {x y : Value} (hB1 : Below (w.alloc (.cells #[.bool false] 4)).heap.size (w.alloc (.cells #[.bool false] 4)) w1) (hB2 : Below w1.heap.size w1 w2)
    (hB3 : Below ((w2.alloc (.cells #[x] 32)).alloc (.cells #[y] 4)).heap.size ((w2.alloc (.cells #[x] 32)).alloc (.cells #[y] 4)) w3) :
    w3.cell? ⟨w.heap.size, 0, none⟩ = some (.bool false) ∧ w3.frozen? ⟨w.heap.size, 0, none⟩ = false ∧ w3.cell? ⟨w2.heap.size, 0, none⟩ = some x ∧ w3.cell? ⟨w2.heap.size + 1, 0, none⟩ = some y ∧
    w.heap.size < w2.heap.size ∧ w2.heap.size + 1 < w3.heap.size ∧ w2.heap.size < w3.heap.size ∧ w.heap.size < w3.heap.size ∧ Below w.heap.size w w3 ∧ Below w2.heap.size w2 w3 := by
  have s1 := hB1.size
  have s2 := hB2.size
  have s3 := hB3.size
  simp only [World.size_alloc] at s1 s3
  have c0 := cell_new_l w (.bool false) 4
  have c1 := cell_new_l w2 x 32
  have c2 := cell_new_l (w2.alloc (.cells #[x] 32)) y 4
  rw [World.size_alloc] at c2
  have hB23 : Below w2.heap.size w2 w3 := (((Below.refl _ w2).alloc (Nat.le_refl _) _).alloc (by simp) _).trans (hB3.mono (by simp; omega))
  have hB13 : Below w1.heap.size w1 w3 := hB2.trans (hB23.mono hB2.size)
  have hB03 : Below (w.alloc (.cells #[.bool false] 4)).heap.size (w.alloc (.cells #[.bool false] 4)) w3 := hB1.trans (hB13.mono hB1.size)
  refine ⟨?_, ?_, ?_, ?_, by omega, by omega, by omega, by omega, ?_, hB23⟩
  · exact (hB03.cell (p := ⟨w.heap.size, 0, none⟩) (by simp)).trans c0.1
  · exact (hB03.frozen (p := ⟨w.heap.size, 0, none⟩) (by simp)).trans c0.2
  · exact (hB3.cell (p := ⟨w2.heap.size, 0, none⟩) (by simp; omega)).trans (cell_alloc_l _ c1.1)
  · exact (hB3.cell (p := ⟨w2.heap.size + 1, 0, none⟩) (by simp)).trans c2.1
  · exact ((Below.refl _ w).alloc (Nat.le_refl _) _).trans (hB03.mono (by simp))

set_option maxRecDepth 100000 in
set_option maxHeartbeats 2000000 in
theorem reads_walk (s : ByteArray) (hs : s.size ≤ maxLen) (w : World) :
    Calls Try.prog 7 #[.string s] w fun e w' => e = .returned (.bool true) ∧ Below w.heap.size w w' := by
  have HS := Lib.hid hs
  unfold maxLen at hs
  refine (callsIn_wide (n := 3)).1 ?_
  refine callsIn_of_wp_marks Try.func7 rfl trivial ?_ rfl
  simp only [Try.ntmps7, List.size_toArray, List.length_cons, List.length_nil, Nat.reduceAdd, Nat.reduceSub, Array.replicate_succ, Array.replicate_zero, List.push_toArray, List.append_toArray, List.nil_append, List.cons_append]
  gi_wp2_with fail
  refine ⟨trivial, callsIn_wide.2 ((speaks4 _).mono ?_)⟩
  rintro e w1 ⟨rfl, hB1⟩
  have HB1 := Lib.hid hB1
  clear hB1
  gi_wp2_with fail
  case' inl =>
    have hT : (s.extract 0 200).size ≤ 200 := by rw [ByteArray.size_extract]; omega
    generalize s.extract 0 200 = t at hT ⊢
    clear hs HS
  case' inr =>
    have hT : s.size ≤ 200 := by omega
    clear hs HS
    generalize s = t at *
  all_goals
    obtain ⟨l, r, he⟩ := ends_exists _ t (Nat.le_refl _)
    have He := Lib.hid he
    clear he
    by_cases h0 : r.size = 0
    · have hd : decide (r.size = 0) = true := decide_eq_true h0
      refine ⟨trivial, callsIn_wide.2 ((refsplit_calls t r l _ (by omega) He.out).mono ?_)⟩
      rintro e w2 ⟨hB2, v1, he1, ho1⟩
      rw [hd] at he1
      clear hd
      obtain ⟨a1, cap1, rfl, hr1⟩ := own_shape ho1
      subst he1
      have HB2 := Lib.hid hB2
      have HR1 := Lib.hid hr1
      have H0 := Lib.hid h0
      clear hB2 hr1 ho1 h0
      gi_wp2_with fail
      refine ⟨trivial, callsIn_wide.2 ((split_calls t r l _ (by omega) He.out).mono ?_)⟩
      rintro e w3 ⟨hB3, (⟨_, v2, rfl, ho2⟩ | ⟨h, _⟩)⟩
      · obtain ⟨a2, cap2, rfl, hr2⟩ := own_shape ho2
        obtain ⟨k0, kf, k1, k2, q1, q2, q3, q4, hB, hB23⟩ := reads_facts HB1.out HB2.out hB3
        have HR13 := Lib.hid (HR1.out.below hB23)
        have HR2 := Lib.hid hr2
        have HB := Lib.hid hB
        clear hB3 hr2 ho2 hB hB23 HR1 HB1 HB2
        gi_wp2_with (first | (refine ⟨trivial, callsIn_wide.2 ((all_calls t _).mono ?_)⟩; rintro e w4 ⟨rfl, rfl⟩))
        all_goals try (exfalso; exact undef_bool (by assumption))
        have hc5 := cell_new_l ((w3.alloc (.cells #[.slice a2 l.length cap2] 32)).alloc (.cells #[.int .i64 0] 3)) (.string t) 9
        simp only [World.size_alloc] at hc5
        refine wpIn_rangeFunc_ownF rfl (by omega) (gf := 35) (lb := #[.pointer (some ⟨w3.heap.size + 1 + 1, 0, none⟩)]) rfl trivial (enters_of Try.func35 (by kernel_rfl) rfl)
          (all_stops t r l He.out (by omega) (w3.heap.size + 1 + 1) _ (by simp) hc5.1) (fun _ _ => trivial) (fun _ _ _ _ _ _ _ _ => trivial) (Below.refl _ _) (fun _ => rfl)
          (fun pre W => (pre.map (·.val) = List.range pre.length ∧ W.cell? ⟨w3.heap.size + 1, 0, none⟩ = some (.int .i64 pre.length) ∧ W.frozen? ⟨w3.heap.size + 1, 0, none⟩ = false ∧ Scene w.heap.size w2.heap.size w3.heap.size (.slice a1 l.length cap1) (.slice a2 l.length cap2) true W ∧ RowIn w3.heap.size a1 l W ∧ RowIn w3.heap.size a2 l W) ∧ Below w.heap.size w W)
          (fun c pre W => c = .ret ∧ pre.map (·.val) ≠ List.range pre.length)
          (OwnFrom.and (Own.from (fun s A B row hs hg hr => ⟨hs.1, cell_kept hs.2.1 hg hr, (frozen_kept hs.2.1 hg hr).trans hs.2.2.1, hs.2.2.2.1.grown hg hr, hs.2.2.2.2.1.grown hg hr, hs.2.2.2.2.2.grown hg hr⟩) _) (ownFrom_below (Nat.le_refl _) (by simp; omega)))
          (fun c s A B row hs hg hr => hs)
          ?_ ?_ ?_ ?_ ?_ ?_
        rotate_left 2
        · intro L x W K hK
          have HK := Lib.hid hK
          clear hK
          gi_wp2
          exact HK.out
        · rintro L pre x W ⟨⟨hp, hn, hf, hS, hw1, hw2⟩, hB⟩ hlen
          have HS := Lib.hid hS
          have HW1 := Lib.hid hw1
          have HW2 := Lib.hid hw2
          have HBB := Lib.hid hB
          obtain ⟨c0, f0, c1, c2, c3⟩ := hS
          have hpb : pre.length ≤ 4194304 := by have := ends_length He.out; omega
          clear hlen hB
          by_cases hx : x.val = pre.length
          · obtain ⟨g1, rfl, hg1, hd1⟩ := hw1 x.val x.isLt
            obtain ⟨g2, rfl, hg2, hd2⟩ := hw2 x.val x.isLt
            have hne : ((x.val : Int) != (pre.length : Int)) = false := by rw [hx]; simp
            have hxl := x.isLt
            have Hx := Lib.hid hx
            have Hp := Lib.hid hp
            clear hx hp
            gi_wp2
            refine ⟨KeepsOthers.setCell _ _ _, trivial, ⟨pos_on Hp.out Hx.out, ?_, ?_, HS.out.setCell (by show w.heap.size ≠ w3.heap.size + 1; omega) (by show w2.heap.size ≠ w3.heap.size + 1; omega) (by show w2.heap.size + 1 ≠ w3.heap.size + 1; omega) (by show w3.heap.size ≠ w3.heap.size + 1; omega) _, HW1.out.setCell (by show w3.heap.size ≤ w3.heap.size + 1; omega) _, HW2.out.setCell (by show w3.heap.size ≤ w3.heap.size + 1; omega) _⟩, HBB.out.setCell (by show w.heap.size ≤ w3.heap.size + 1; omega) _⟩
            · rw [World.cell?_setCell_same' _ _ _ (by rw [hn]; rfl), List.length_append]
              rfl
            · rw [World.frozen?_setCell]; exact hf
          · have hne : ((x.val : Int) != (pre.length : Int)) = true := by rw [bne_iff_ne]; omega
            have Hx := Lib.hid hx
            have Hp := Lib.hid hp
            clear hx hp hw1 hw2 c1 c2 c3
            gi_wp2
            exact ⟨KeepsOthers.setCell _ _ _, rfl, fun h => Hx.out (pos_of h)⟩
        · rintro D ys W hD hys ⟨⟨_, hn, hf, hS, hw1, hw2⟩, hB⟩ hK
          have hyl : ys.length = l.length := by
            have := congrArg List.length hys
            simpa using this
          obtain ⟨c0, f0, c1, c2, c3⟩ := hS
          have hq : ((ys.length : Int) == (l.length : Int)) = true := by rw [hyl]; simp
          have HBB := Lib.hid hB
          clear hw1 hw2 hyl hys hB
          gi_wp2
          have hK' := (KeepsOthers.setCell W ⟨w.heap.size, 0, none⟩ (.bool true)).same D _ hK rfl
          refine ⟨by simp, .inl ⟨_, _, rfl, run_takeDeferred hK', ?_⟩⟩
          have hc6 := cell_kept (World.cell?_setCell_same' W ⟨w.heap.size, 0, none⟩ (.bool true) (by rw [c0]; rfl)) (grownBy_putObj' _ D (.deferred none)) (fun r e => by cases e; exact ⟨_, hK', rfl⟩)
          refine ⟨.bool true, ?_, rfl, (HBB.out.setCell (p := ⟨w.heap.size, 0, none⟩) (Nat.le_refl _) _).trans (belowK_b (w := w) (Nat.le_refl _) _ D _ _ (by simp at hD; omega) hK' rfl rfl)⟩
          simp [results, Try.f7, go_sem, hc6]
        · rintro D c pre W hD hSp ⟨_, hne⟩ hK
          exact absurd hSp hne
        · exact ⟨⟨rfl, (start_facts _ _).1, (start_facts _ _).2.1, scene_start k0 kf k1 k2, ((HR13.out.within).alloc _).alloc _ |>.alloc _, ((HR2.out.within).alloc _).alloc _ |>.alloc _⟩, ((HB.out.alloc (by omega) _).alloc (by simp; omega) _).alloc (by simp; omega) _⟩
      · exact absurd H0.out h
    · have hd : decide (r.size = 0) = false := decide_eq_false h0
      refine ⟨trivial, callsIn_wide.2 ((refsplit_calls t r l _ (by omega) He.out).mono ?_)⟩
      rintro e w2 ⟨hB2, v1, he1, ho1⟩
      rw [hd] at he1
      clear hd
      obtain ⟨a1, cap1, rfl, hr1⟩ := own_shape ho1
      subst he1
      have HB2 := Lib.hid hB2
      have HR1 := Lib.hid hr1
      have H0 := Lib.hid h0
      clear hB2 hr1 ho1 h0
      gi_wp2_with fail
      refine ⟨trivial, callsIn_wide.2 ((split_calls t r l _ (by omega) He.out).mono ?_)⟩
      rintro e w3 ⟨hB3, (⟨h, _⟩ | ⟨_, rfl⟩)⟩
      · exact absurd h H0.out
      · obtain ⟨k0, kf, k1, k2, q1, q2, q3, q4, hB, hB23⟩ := reads_facts HB1.out HB2.out hB3
        have HR13 := Lib.hid (HR1.out.below hB23)
        have HB := Lib.hid hB
        clear hB3 hB hB23 HR1 HB1 HB2
        gi_wp2_with (first | (refine ⟨trivial, callsIn_wide.2 ((all_calls t _).mono ?_)⟩; rintro e w4 ⟨rfl, rfl⟩))
        all_goals try (exfalso; exact undef_bool (by assumption))
        have hc5 := cell_new_l ((w3.alloc (.cells #[.slice none 0 0] 32)).alloc (.cells #[.int .i64 0] 3)) (.string t) 9
        simp only [World.size_alloc] at hc5
        refine wpIn_rangeFunc_ownF rfl (by omega) (gf := 35) (lb := #[.pointer (some ⟨w3.heap.size + 1 + 1, 0, none⟩)]) rfl trivial (enters_of Try.func35 (by kernel_rfl) rfl)
          (all_stops t r l He.out (by omega) (w3.heap.size + 1 + 1) _ (by simp) hc5.1) (fun _ _ => trivial) (fun _ _ _ _ _ _ _ _ => trivial) (Below.refl _ _) (fun _ => rfl)
          (fun pre W => (pre.map (·.val) = List.range pre.length ∧ W.cell? ⟨w3.heap.size + 1, 0, none⟩ = some (.int .i64 pre.length) ∧ W.frozen? ⟨w3.heap.size + 1, 0, none⟩ = false ∧ Scene w.heap.size w2.heap.size w3.heap.size (.slice a1 l.length cap1) (.slice none 0 0) false W ∧ RowIn w3.heap.size a1 l W) ∧ Below w.heap.size w W)
          (fun c pre W => c = .ret ∧ pre.map (·.val) ≠ List.range pre.length)
          (OwnFrom.and (Own.from (fun s A B row hs hg hr => ⟨hs.1, cell_kept hs.2.1 hg hr, (frozen_kept hs.2.1 hg hr).trans hs.2.2.1, hs.2.2.2.1.grown hg hr, hs.2.2.2.2.grown hg hr⟩) _) (ownFrom_below (Nat.le_refl _) (by simp; omega)))
          (fun c s A B row hs hg hr => hs)
          ?_ ?_ ?_ ?_ ?_ ?_
        rotate_left 2
        · intro L x W K hK
          have HK := Lib.hid hK
          clear hK
          gi_wp2
          exact HK.out
        · rintro L pre x W ⟨⟨hp, hn, hf, hS, hw1⟩, hB⟩ hlen
          have HS := Lib.hid hS
          have HW1 := Lib.hid hw1
          have HBB := Lib.hid hB
          obtain ⟨c0, f0, c1, c2, c3⟩ := hS
          have hpb : pre.length ≤ 4194304 := by have := ends_length He.out; omega
          clear hlen hB
          by_cases hx : x.val = pre.length
          · obtain ⟨g1, rfl, hg1, hd1⟩ := hw1 x.val x.isLt
            have hne : ((x.val : Int) != (pre.length : Int)) = false := by rw [hx]; simp
            have hxl := x.isLt
            have Hx := Lib.hid hx
            have Hp := Lib.hid hp
            clear hx hp
            gi_wp2
            refine ⟨KeepsOthers.setCell _ _ _, trivial, ⟨pos_on Hp.out Hx.out, ?_, ?_, HS.out.setCell (by show w.heap.size ≠ w3.heap.size + 1; omega) (by show w2.heap.size ≠ w3.heap.size + 1; omega) (by show w2.heap.size + 1 ≠ w3.heap.size + 1; omega) (by show w3.heap.size ≠ w3.heap.size + 1; omega) _, HW1.out.setCell (by show w3.heap.size ≤ w3.heap.size + 1; omega) _⟩, HBB.out.setCell (by show w.heap.size ≤ w3.heap.size + 1; omega) _⟩
            · rw [World.cell?_setCell_same' _ _ _ (by rw [hn]; rfl), List.length_append]
              rfl
            · rw [World.frozen?_setCell]; exact hf
          · have hne : ((x.val : Int) != (pre.length : Int)) = true := by rw [bne_iff_ne]; omega
            have Hx := Lib.hid hx
            have Hp := Lib.hid hp
            clear hx hp hw1 c1 c2 c3
            gi_wp2
            exact ⟨KeepsOthers.setCell _ _ _, rfl, fun h => Hx.out (pos_of h)⟩
        · rintro D ys W hD hys ⟨⟨_, hn, hf, hS, hw1⟩, hB⟩ hK
          have hyl : ys.length = l.length := by
            have := congrArg List.length hys
            simpa using this
          obtain ⟨c0, f0, c1, c2, c3⟩ := hS
          have hq : ((ys.length : Int) == (l.length : Int)) = true := by rw [hyl]; simp
          have HBB := Lib.hid hB
          clear hw1 hyl hys hB
          gi_wp2
          have hK' := (KeepsOthers.setCell W ⟨w.heap.size, 0, none⟩ (.bool true)).same D _ hK rfl
          refine ⟨by simp, .inl ⟨_, _, rfl, run_takeDeferred hK', ?_⟩⟩
          have hc6 := cell_kept (World.cell?_setCell_same' W ⟨w.heap.size, 0, none⟩ (.bool true) (by rw [c0]; rfl)) (grownBy_putObj' _ D (.deferred none)) (fun r e => by cases e; exact ⟨_, hK', rfl⟩)
          refine ⟨.bool true, ?_, rfl, (HBB.out.setCell (p := ⟨w.heap.size, 0, none⟩) (Nat.le_refl _) _).trans (belowK_b (w := w) (Nat.le_refl _) _ D _ _ (by simp at hD; omega) hK' rfl rfl)⟩
          simp [results, Try.f7, go_sem, hc6]
        · rintro D c pre W hD hSp ⟨_, hne⟩ hK
          exact absurd hSp hne
        · exact ⟨⟨rfl, (start_facts _ _).1, (start_facts _ _).2.1, scene_start k0 kf k1 k2, ((HR13.out.within).alloc _).alloc _ |>.alloc _⟩, ((HB.out.alloc (by omega) _).alloc (by simp; omega) _).alloc (by simp; omega) _⟩
end Go.Proofs.Ytingoaklioplaaa
