/- The walk of the statement PackBack where the texts are small: it answers true. Condition: the packed text of the first twenty texts is of at most 4194304 bytes. -/
import Derived.Test.YtingoaklioplaaaPackRef
import Derived.Sort.QuietIn
import Derived.Test.YtingoaklioplaaaSkRound
namespace Go.Proofs.Ytingoaklioplaaa
open Go.RowKit Go.Shelf
attribute [local go_sem] Oper.semAt_some
set_option linter.unusedVariables false

theorem packed_data (l : List ByteArray) : (packed l).data.toList = packB l := rfl
theorem packed_size (l : List ByteArray) : (packed l).size = (packB l).length := rfl
theorem hd4_length (n : Nat) : (hd4 n).length = 4 := rfl
theorem bval_hd4 (n : Nat) (h : n ≤ 1073741824) : bval (hd4 n) = n := by
  have e : hd4 n = [UInt8.ofNat ((n : Int) / 16777216 % 256).toNat, UInt8.ofNat ((n : Int) / 65536 % 256).toNat, UInt8.ofNat ((n : Int) / 256 % 256).toNat, UInt8.ofNat ((n : Int) % 256).toNat] := rfl
  rw [e, bval4, byte_mod, byte_mod, byte_mod, byte_mod]
  omega
theorem bytes_ext {a b : ByteArray} (h : a.data.toList = b.data.toList) : a = b := ByteArray.ext (Array.toList_inj.1 h)
theorem cut_packed (t : ByteArray) (l : List ByteArray) (h : t.size ≤ 1073741824) : cut (packed (t :: l)) = some (t, packed l) := by
  have hl : t.data.toList.length = t.size := Array.length_toList
  have hsz : (packed (t :: l)).size = 4 + t.size + (packed l).size := by
    rw [packed_size, packB, List.length_append, List.length_append, hd4_length, hl]; rfl
  have htk : (packed (t :: l)).data.toList.take 4 = hd4 t.size := by
    rw [packed_data, packB, List.append_assoc]; exact List.take_left (l₁ := hd4 t.size)
  have hdr : (packed (t :: l)).data.toList.drop 4 = t.data.toList ++ packB l := by
    rw [packed_data, packB, List.append_assoc]; exact List.drop_left (l₁ := hd4 t.size)
  unfold cut
  rw [htk, bval_hd4 _ h, if_neg (by omega), if_neg (by omega)]
  have e1 : (packed (t :: l)).extract 4 (4 + t.size) = t := bytes_ext (by
    rw [Lib.extract_data, show 4 + t.size - 4 = t.size by omega, hdr, ← hl]; exact List.take_left)
  have e2 : (packed (t :: l)).extract (4 + t.size) (packed (t :: l)).size = packed l := bytes_ext (by
    rw [Lib.extract_data, ← List.drop_drop, hdr, ← hl, List.drop_left, packed_data]
    exact List.take_of_length_le (by rw [hsz, packed_size, hl]; omega))
  rw [e1, e2]
theorem ends_packed : ∀ (l : List ByteArray), (∀ t ∈ l, t.size ≤ 1073741824) → Ends (packed l) l ⟨#[]⟩
  | [], _ => ⟨by decide +kernel, rfl⟩
  | t :: l, h => ⟨packed l, cut_packed t l (h t (by simp)), ends_packed l (fun x hx => h x (by simp [hx]))⟩
theorem mem_packB : ∀ (l : List ByteArray) (t : ByteArray), t ∈ l → t.size ≤ (packB l).length
  | s :: l, t, h => by
    have hl : s.data.toList.length = s.size := Array.length_toList
    rw [packB, List.length_append, List.length_append, hl]
    rcases List.mem_cons.1 h with rfl | h
    · omega
    · have := mem_packB l t h; omega

theorem two_facts {w w1 : World} {x : Value} (hB1 : Below ((w.alloc (.cells #[x] 32)).alloc (.cells #[.bool false] 4)).heap.size ((w.alloc (.cells #[x] 32)).alloc (.cells #[.bool false] 4)) w1) :
    w1.cell? ⟨w.heap.size, 0, none⟩ = some x ∧ w1.frozen? ⟨w.heap.size, 0, none⟩ = false ∧ w1.cell? ⟨w.heap.size + 1, 0, none⟩ = some (.bool false) ∧ w1.frozen? ⟨w.heap.size + 1, 0, none⟩ = false ∧
    w.heap.size < w1.heap.size ∧ w.heap.size + 1 < w1.heap.size ∧ Below w.heap.size w w1 := by
  have s1 := hB1.size
  simp only [World.size_alloc] at s1
  have c1 := cell_new_l w x 32
  have c2 := cell_new_l (w.alloc (.cells #[x] 32)) (.bool false) 4
  rw [World.size_alloc] at c2
  refine ⟨?_, ?_, ?_, ?_, by omega, by omega, ?_⟩
  · exact (hB1.cell (p := ⟨w.heap.size, 0, none⟩) (by simp; omega)).trans (cell_alloc_l _ c1.1)
  · exact (hB1.frozen (p := ⟨w.heap.size, 0, none⟩) (by simp; omega)).trans ((frozen_alloc_l _ (by simp)).trans c1.2)
  · exact (hB1.cell (p := ⟨w.heap.size + 1, 0, none⟩) (by simp)).trans c2.1
  · exact (hB1.frozen (p := ⟨w.heap.size + 1, 0, none⟩) (by simp)).trans c2.2
  · exact (((Below.refl _ w).alloc (Nat.le_refl _) _).alloc (by simp) _).trans (hB1.mono (by simp; omega))
theorem RowAt.take {a : Option Addr} {l : List ByteArray} {w : World} (h : RowAt a l w) (n : Nat) : RowAt a (l.take n) w := fun i hi => by
  rw [List.length_take] at hi
  obtain ⟨g, off, ha, hg, hc⟩ := h i (by omega)
  exact ⟨g, off, ha, hg, by rw [hc, List.getElem_take]⟩
theorem RowAt.setCell {a : Option Addr} {l : List ByteArray} {w w' : World} (h : RowAt a l w) (hB : Below w.heap.size w w') {p : Addr} (hp : w.heap.size ≤ p.block) (v : Value) : RowAt a l (w'.setCell p v) := h.below (hB.setCell hp v)
/-- What the law's first boxes and its argument hold. -/
structure BS (w : World) (v : Value) (a : Option Addr) (l : List ByteArray) (W : World) : Prop where
  c1 : W.cell? ⟨w.heap.size, 0, none⟩ = some v
  c2 : W.cell? ⟨w.heap.size + 1, 0, none⟩ = some (.bool false)
  f2 : W.frozen? ⟨w.heap.size + 1, 0, none⟩ = false
  row : RowAt a l W
  q1 : w.heap.size < W.heap.size
  q2 : w.heap.size + 1 < W.heap.size
  below : Below w.heap.size w W
theorem BS.onto {w : World} {v : Value} {a : Option Addr} {l : List ByteArray} {W W' : World} (h : BS w v a l W) (hB : Below W.heap.size W W') : BS w v a l W' :=
  ⟨(hB.cell (p := ⟨w.heap.size, 0, none⟩) h.q1).trans h.c1, (hB.cell (p := ⟨w.heap.size + 1, 0, none⟩) h.q2).trans h.c2, (hB.frozen (p := ⟨w.heap.size + 1, 0, none⟩) h.q2).trans h.f2,
    h.row.below hB, Nat.lt_of_lt_of_le h.q1 hB.size, Nat.lt_of_lt_of_le h.q2 hB.size, h.below.trans (hB.mono h.below.size)⟩
theorem BS.start {w w1 : World} {x v : Value} {a : Option Addr} {l : List ByteArray} (k1 : w1.cell? ⟨w.heap.size, 0, none⟩ = some x) (k2 : w1.cell? ⟨w.heap.size + 1, 0, none⟩ = some (.bool false)) (kf2 : w1.frozen? ⟨w.heap.size + 1, 0, none⟩ = false)
    (q1 : w.heap.size < w1.heap.size) (q2 : w.heap.size + 1 < w1.heap.size) (hB : Below w.heap.size w w1) (hr : RowAt a l w) : BS w v a l (w1.setCell ⟨w.heap.size, 0, none⟩ v) :=
  ⟨World.cell?_setCell_same' _ _ _ (by rw [k1]; rfl), cell_setCell_l _ k2 (by show w.heap.size + 1 ≠ w.heap.size; omega), by rw [World.frozen?_setCell]; exact kf2,
    hr.setCell hB (Nat.le_refl _) _, by rw [World.size_setCell]; exact q1, by rw [World.size_setCell]; exact q2, hB.setCell (p := ⟨w.heap.size, 0, none⟩) (Nat.le_refl _) _⟩
/-- The cells of a slice of texts, in blocks below N, from whatever place on. -/
def RowAtIn (N : Nat) (a : Option Addr) (l : List ByteArray) (w : World) : Prop :=
  ∀ i (hi : i < l.length), ∃ g off, a = some ⟨g, off, none⟩ ∧ g < N ∧ w.cell? ⟨g, off + i, none⟩ = some (.string l[i])
theorem RowAtIn.grown {N : Nat} {a : Option Addr} {l : List ByteArray} {A B : World} {row : Option Nat} (h : RowAtIn N a l A) (hg : A.grownBy B row) (hr : ∀ r, row = some r → ∃ o : Obj, A.heap[r]? = some o ∧ o.isCells = false) : RowAtIn N a l B := fun i hi => by
  obtain ⟨g, off, ha, hn, hc⟩ := h i hi
  exact ⟨g, off, ha, hn, cell_kept hc hg hr⟩
theorem RowAtIn.setCell {N : Nat} {a : Option Addr} {l : List ByteArray} {A : World} {p : Addr} (h : RowAtIn N a l A) (hp : N ≤ p.block) (v : Value) : RowAtIn N a l (A.setCell p v) := fun i hi => by
  obtain ⟨g, off, ha, hn, hc⟩ := h i hi
  exact ⟨g, off, ha, hn, cell_setCell_l v hc (by show g ≠ p.block; omega)⟩
theorem RowAtIn.alloc {N : Nat} {a : Option Addr} {l : List ByteArray} {A : World} (h : RowAtIn N a l A) (o : Obj) : RowAtIn N a l (A.alloc o) := fun i hi => by
  obtain ⟨g, off, ha, hn, hc⟩ := h i hi
  exact ⟨g, off, ha, hn, cell_alloc_l o hc⟩
theorem RowAt.within {a : Option Addr} {l : List ByteArray} {w : World} (h : RowAt a l w) : RowAtIn w.heap.size a l w := h
theorem RowIs.at {a : Option Addr} {l : List ByteArray} {w : World} (h : RowIs a l w) : RowAt a l w := fun i hi => by
  obtain ⟨g, ha, hg, hc⟩ := h i hi
  exact ⟨g, 0, ha, hg, by rw [Nat.zero_add]; exact hc⟩
theorem keeps_drewN (W : World) (n : Nat) : KeepsOthers W (W.drewN n) := ⟨Nat.le_refl _, fun _ _ h _ => h⟩
theorem n_facts (w : World) (n : Int) (s : ByteArray) :
    ((w.alloc (.cells #[.int .i64 n] 3)).alloc (.cells #[.string s] 9)).cell? ⟨w.heap.size, 0, none⟩ = some (.int .i64 n) ∧
    ((w.alloc (.cells #[.int .i64 n] 3)).alloc (.cells #[.string s] 9)).frozen? ⟨w.heap.size, 0, none⟩ = false ∧
    ((w.alloc (.cells #[.int .i64 n] 3)).alloc (.cells #[.string s] 9)).cell? ⟨w.heap.size + 1, 0, none⟩ = some (.string s) := by
  have h := cell_new_l w (.int .i64 n) 3
  have h2 := cell_new_l (w.alloc (.cells #[.int .i64 n] 3)) (.string s) 9
  rw [World.size_alloc] at h2
  exact ⟨cell_alloc_l _ h.1, (frozen_alloc_l _ (by simp)).trans h.2, h2.1⟩
set_option maxRecDepth 100000 in
set_option maxHeartbeats 2000000 in
theorem back_walk (ss : List ByteArray) (a : Option Addr) (cap : Nat) (hcap : ss.length ≤ cap) (hcm : cap ≤ 9223372036854775807) (w : World) (hsz : (packB (ss.take 20)).length ≤ 4194304) (hr : RowAt a ss w) :
    Calls Try.prog 6 #[.slice a ss.length cap] w fun e w' => e = .returned (.bool true) ∧ Below w.heap.size w w' := by
  have HSZ := Lib.hid hsz
  have HR := Lib.hid hr
  clear hsz hr
  refine (callsIn_wide (n := 3)).1 ?_
  refine callsIn_of_wp_marks Try.func6 rfl trivial ?_ rfl
  simp only [Try.ntmps6, List.size_toArray, List.length_cons, List.length_nil, Nat.reduceAdd, Nat.reduceSub, Array.replicate_succ, Array.replicate_zero, List.push_toArray, List.append_toArray, List.nil_append, List.cons_append]
  gi_wp2_with fail
  refine ⟨trivial, callsIn_wide.2 ((speaks4 _).mono ?_)⟩
  rintro e w1 ⟨rfl, hB1⟩
  obtain ⟨k1, kf1, k2, kf2, q1, q2, hB⟩ := two_facts hB1
  have HB := Lib.hid hB
  clear hB1 hB
  gi_wp2_with fail
  case' inl =>
    have hl2 : (ss.take 20).length = 20 := by rw [List.length_take]; omega
    rw [show Value.slice a 20 cap = Value.slice a (ss.take 20).length cap from by rw [hl2]]
    clear hl2
  case' inr =>
    have hl2 : (ss.take 20).length = ss.length := by rw [List.length_take]; omega
    rw [show Value.slice a ss.length cap = Value.slice a (ss.take 20).length cap from by rw [hl2]]
    clear hl2
  all_goals
    have h20 : (ss.take 20).length ≤ 20 := by rw [List.length_take]; omega
    have HBS := BS.start (v := Value.slice a (ss.take 20).length cap) k1 k2 kf2 q1 q2 HB.out (HR.out.take 20)
    clear k1 kf1 k2 kf2 q1 q2 HR HB
    generalize ss.take 20 = l2 at *
    generalize w1.setCell { block := w.heap.size, off := 0 } (Value.slice a l2.length cap) = W1 at *
    have HBS1 := Lib.hid HBS
    clear HBS
    refine ⟨trivial, callsIn_wide.2 ((pack_calls l2 a cap W1 (by omega) (by have := HSZ.out; omega) (fun i hi => ?_)).mono ?_)⟩
    · obtain ⟨g, off, ha, hg, hc⟩ := HBS1.out.row i hi
      exact ⟨g, off, ha, hg, hc⟩
    rintro e w2 ⟨rfl, hB2⟩
    have HBS2 := Lib.hid (HBS1.out.onto hB2)
    clear hB2 HBS1
    gi_wp2_with fail
    refine ⟨trivial, callsIn_wide.2 ((split_calls (packed l2) ⟨#[]⟩ l2 _ HSZ.out (ends_packed l2 (fun t ht => by have := mem_packB l2 t ht; have := HSZ.out; omega))).mono ?_)⟩
    rintro e w3 ⟨hB3, (⟨_, v, rfl, ho⟩ | ⟨h, _⟩)⟩
    · obtain ⟨a2, cap2, rfl, hr2⟩ := own_shape ho
      have HBS3 := Lib.hid (HBS2.out.onto hB3)
      have HR2 := Lib.hid hr2
      clear hB3 HBS2 ho hr2
      have hBm : Below w3.heap.size w3 (w3.alloc (.cells #[.slice a2 l2.length cap2] 32)) := (Below.refl _ _).alloc (Nat.le_refl _) _
      have hq3 : w3.heap.size < (w3.alloc (.cells #[.slice a2 l2.length cap2] 32)).heap.size := by simp
      have hcm3 := (cell_new_l w3 (.slice a2 l2.length cap2) 32).1
      have HX := Lib.hid (And.intro hBm (And.intro hq3 hcm3))
      clear hBm hq3 hcm3
      obtain ⟨c1, c2, f2, _, q1, q2, _⟩ := HBS3.out
      gi_wp2_with fail
      clear c1 c2 f2 q1 q2
      refine ⟨trivial, callsIn_wide.2 ((refpack_calls l2 a cap _ (by omega) (by have := HSZ.out; omega) (HBS3.out.row.below HX.out.1)).mono ?_)⟩
      rintro e w4 ⟨rfl, hB4⟩
      have HBS4 := Lib.hid ((HBS3.out.onto HX.out.1).onto hB4)
      have HR4 := Lib.hid ((HR2.out.below HX.out.1).at.below hB4)
      have cm : w4.cell? ⟨w3.heap.size, 0, none⟩ = some (.slice a2 l2.length cap2) := (hB4.cell (p := ⟨w3.heap.size, 0, none⟩) HX.out.2.1).trans HX.out.2.2
      have qm : w3.heap.size < w4.heap.size := Nat.lt_of_lt_of_le HX.out.2.1 hB4.size
      have qq := HBS3.out.q2
      clear hB4 HBS3 HR2 HX
      obtain ⟨c1, c2, f2, _, q1, q2, _⟩ := HBS4.out
      gi_wp2_with (first | (refine ⟨trivial, callsIn_wide.2 ((all_calls (packed l2) _).mono ?_)⟩; rintro e w5 ⟨rfl, rfl⟩))
      all_goals try (exfalso; exact undef_bool (by assumption))
      have hc5 := n_facts w4 0 (packed l2)
      have H5 := Lib.hid hc5
      clear hc5
      refine wpIn_rangeFunc_ownF rfl (by omega) (gf := 35) (lb := #[.pointer (some ⟨w4.heap.size + 1, 0, none⟩)]) rfl trivial (enters_of Try.func35 (by kernel_rfl) rfl)
        (all_stops (packed l2) ⟨#[]⟩ l2 (ends_packed l2 (fun t ht => by have := mem_packB l2 t ht; have := HSZ.out; omega)) HSZ.out (w4.heap.size + 1) _ (by simp) H5.out.2.2) (fun _ _ => trivial) (fun _ _ _ _ _ _ _ _ => trivial) (Below.refl _ _) (fun _ => rfl)
        (fun pre W => (pre.map (·.val) = List.range pre.length ∧ W.cell? ⟨w4.heap.size, 0, none⟩ = some (.int .i64 pre.length) ∧ W.frozen? ⟨w4.heap.size, 0, none⟩ = false ∧ Scene (w.heap.size + 1) w.heap.size w3.heap.size (.slice a l2.length cap) (.slice a2 l2.length cap2) false W ∧ RowAtIn w4.heap.size a l2 W ∧ RowAtIn w4.heap.size a2 l2 W) ∧ Below w.heap.size w W)
        (fun c pre W => c = .ret ∧ pre.map (·.val) ≠ List.range pre.length)
        (OwnFrom.and (Own.from (fun s A B row hs hg hr => ⟨hs.1, cell_kept hs.2.1 hg hr, (frozen_kept hs.2.1 hg hr).trans hs.2.2.1, hs.2.2.2.1.grown hg hr, hs.2.2.2.2.1.grown hg hr, hs.2.2.2.2.2.grown hg hr⟩) _) (ownFrom_below (Nat.le_refl _) (by simp; omega)))
        (fun c s A B row hs hg hr => hs)
        ?_ ?_ ?_ ?_ ?_ ?_
      rotate_left 2
      · intro L x W K hK
        have HK := Lib.hid hK
        clear hK
        gi_wp2
        exact HK.out
      · rintro L pre x W ⟨⟨hp, hn, hf, hS, hw1, hw2⟩, hB⟩ hlen
        have HS := Lib.hid hS
        have HW1 := Lib.hid hw1
        have HW2 := Lib.hid hw2
        have HBB := Lib.hid hB
        obtain ⟨s0, g0, s1, s2, s3⟩ := hS
        have hpb : pre.length ≤ 4194304 := by omega
        clear hlen hB
        by_cases hx : x.val = pre.length
        · obtain ⟨g1, of1, rfl, hg1, hd1⟩ := hw1 x.val x.isLt
          obtain ⟨g2, of2, rfl, hg2, hd2⟩ := hw2 x.val x.isLt
          have hne : ((x.val : Int) != (pre.length : Int)) = false := by rw [hx]; simp
          have hxl := x.isLt
          have hxd : decide ((l2.length : Int) ≤ (x.val : Int)) = false := by simp
          have hxe : decide (l2.length ≤ x.val) = false := decide_eq_false (by omega)
          have Hx := Lib.hid hx
          have Hp := Lib.hid hp
          clear hx hp
          gi_wp2
          refine wpIn_region_quiet_round rfl (by kernel_rfl) (by kernel_rfl) (by kernel_rfl) ?_
          repeat (gi_big_quiet_step (fail))
          refine wpQuietIn_nil ?_
          intro _ hw'
          obtain ⟨nq, hw''⟩ := hw'
          subst hw''
          gi_wp2
          have HGd := drewN_grownBy W nq
          refine ⟨(keeps_drewN W nq).trans (KeepsOthers.setCell _ _ _), trivial, ⟨pos_on Hp.out Hx.out, ?_, ?_,
            (HS.out.grown HGd (fun r e => by cases e)).setCell (by show w.heap.size + 1 ≠ w4.heap.size; omega) (by show w.heap.size ≠ w4.heap.size; omega) (by show w.heap.size + 1 ≠ w4.heap.size; omega) (by show w3.heap.size ≠ w4.heap.size; omega) _,
            (HW1.out.grown HGd (fun r e => by cases e)).setCell (Nat.le_refl _) _, (HW2.out.grown HGd (fun r e => by cases e)).setCell (Nat.le_refl _) _⟩, (below_drewN' HBB.out nq).setCell (by show w.heap.size ≤ w4.heap.size; omega) _⟩
          · rw [World.cell?_setCell_same' _ _ _ (by show (W.cell? ⟨w4.heap.size, 0, none⟩).isSome = true; rw [hn]; rfl), List.length_append]
            rfl
          · rw [World.frozen?_setCell]; exact hf
        · have hne : ((x.val : Int) != (pre.length : Int)) = true := by rw [bne_iff_ne]; omega
          have Hx := Lib.hid hx
          have Hp := Lib.hid hp
          clear hx hp hw1 hw2
          gi_wp2
          refine wpIn_region_quiet_round rfl (by kernel_rfl) (by kernel_rfl) (by kernel_rfl) ?_
          repeat (gi_big_quiet_step (fail))
          refine wpQuietIn_nil ?_
          intro _ hw'
          obtain ⟨nq, hw''⟩ := hw'
          subst hw''
          gi_wp2
          exact ⟨(keeps_drewN W nq).trans (KeepsOthers.setCell _ _ _), rfl, fun h => Hx.out (pos_of h)⟩
      · rintro D ys W hD hys ⟨⟨_, hn, hf, hS, hw1, hw2⟩, hB⟩ hK
        have hyl : ys.length = l2.length := by
          have := congrArg List.length hys
          simpa using this
        obtain ⟨s0, g0, s1, s2, s3⟩ := hS
        have hq : ((ys.length : Int) == (l2.length : Int)) = true := by rw [hyl]; simp
        have HBB := Lib.hid hB
        clear hw1 hw2 hyl hys hB
        gi_wp2
        have hK' := (KeepsOthers.setCell W ⟨w.heap.size + 1, 0, none⟩ (.bool true)).same D _ hK rfl
        refine ⟨by simp, .inl ⟨_, _, rfl, run_takeDeferred hK', ?_⟩⟩
        have hc6 := cell_kept (World.cell?_setCell_same' W ⟨w.heap.size + 1, 0, none⟩ (.bool true) (by rw [s0]; rfl)) (grownBy_putObj' _ D (.deferred none)) (fun r e => by cases e; exact ⟨_, hK', rfl⟩)
        refine ⟨.bool true, ?_, rfl, (HBB.out.setCell (p := ⟨w.heap.size + 1, 0, none⟩) (by show w.heap.size ≤ w.heap.size + 1; omega) _).trans (belowK_b (w := w) (Nat.le_refl _) _ D _ _ (by simp at hD; omega) hK' rfl rfl)⟩
        simp [results, Try.f6, go_sem, hc6]
      · rintro D c pre W hD hSp ⟨_, hne⟩ hK
        exact absurd hSp hne
      · exact ⟨⟨rfl, H5.out.1, H5.out.2.1, Scene.alloc (Scene.alloc ⟨c2, f2, c1, c2, cm⟩ _) _, (HBS4.out.row.within.alloc _).alloc _, (HR4.out.within.alloc _).alloc _⟩, (HBS4.out.below.alloc (by omega) _).alloc (by simp; omega) _⟩
    · exact absurd rfl h
end Go.Proofs.Ytingoaklioplaaa
