/- The walks of pack.Pack and the reference's Pack: the packed text of a list of texts. Condition: the packed text is of at most 1073741824 bytes. -/
import Derived.Test.YtingoaklioplaaaPackSplit
import Derived.Lib.AppendStr
import Derived.Deep.DeepMust
namespace Go.Proofs.Ytingoaklioplaaa
open Go.RowKit
set_option linter.unusedVariables false

/-- The four bytes of a length. -/
def hd4 (n : Nat) : List UInt8 := (be4 n).map fun x => UInt8.ofNat x.toNat
/-- The bytes of some texts, packed. -/
def packB : List ByteArray → List UInt8
  | [] => []
  | s :: l => hd4 s.size ++ s.data.toList ++ packB l
def packed (l : List ByteArray) : ByteArray := ⟨(packB l).toArray⟩
def cellsB (l : List UInt8) : List Value := l.map fun b => Value.int .u8 b.toNat

theorem packB_append : ∀ (l m : List ByteArray), packB (l ++ m) = packB l ++ packB m
  | [], m => rfl
  | s :: l, m => by rw [List.cons_append, packB, packB, packB_append l m]; simp
theorem packB_snoc (l : List ByteArray) (s : ByteArray) : packB (l ++ [s]) = packB l ++ hd4 s.size ++ s.data.toList := by
  rw [packB_append, packB, packB, List.append_nil, List.append_assoc]
theorem cellsB_append (l m : List UInt8) : cellsB (l ++ m) = cellsB l ++ cellsB m := List.map_append
theorem cellsB_strCells (s : ByteArray) : cellsB s.data.toList = Lib.strCells s := rfl
theorem cellsB_hd4 (n : Nat) : cellsB (hd4 n) = [.int .u8 ((n : Int) / 16777216 % 256), .int .u8 ((n : Int) / 65536 % 256), .int .u8 ((n : Int) / 256 % 256), .int .u8 ((n : Int) % 256)] := by
  have e : ∀ x : Int, (((UInt8.ofNat (x % 256).toNat).toNat : Nat) : Int) = x % 256 := fun x => by rw [byte_mod]; omega
  simp only [cellsB, hd4, be4, List.map_cons, List.map_nil, e]
theorem cellsB_length (l : List UInt8) : (cellsB l).length = l.length := List.length_map _

theorem conv_owned {w : World} {base : Nat} {v : Value} {n : Nat} {l : List UInt8} (h : w.ownsRow base 5 1 v n (cellsB l)) (hn : n = l.length) :
    (convert 59 9 v).run Try.prog w = .ok (.string ⟨l.toArray⟩) w := by
  subst hn
  rcases h.2 with ⟨rfl, h0⟩ | ⟨g, cap, cur, rfl, _, hg, _⟩
  · have : l = [] := List.length_eq_zero_iff.1 h0
    subst this
    exact run_convert_bytes_nil w 59 5 Try.underlying59 Try.underlying5 0 0 9 Try.underlying9
  · refine run_convert_bytes_back w 59 9 5 ⟨g, 0, none⟩ cap l Try.underlying59 Try.underlying5 Try.underlying9 (fun j hj => ?_)
    exact h.cells (g := g) rfl j _ (by rw [cellsB, List.getElem?_map, List.getElem?_eq_getElem hj]; rfl)

theorem Try.info5 : (Try.prog.info? 5).map (fun i => (i.zero, i.size, i.bytes)) = some (some (.int .u8 0), 1, 1) := by kernel_rfl

theorem four_cells {W : World} {x0 x1 x2 x3 : Value} (j : Nat) (u : Value) (h : [x0, x1, x2, x3][j]? = some u) :
    (W.alloc (.cells #[x0, x1, x2, x3] 5)).cell? ((⟨W.heap.size, 0, none⟩ : Addr).add j) = some u := by
  rw [Addr.add_lit]
  have hj : j < 4 := by
    have := (List.getElem?_eq_some_iff.1 h).1
    simpa using this
  have : j = 0 ∨ j = 1 ∨ j = 2 ∨ j = 3 := by omega
  rcases this with rfl | rfl | rfl | rfl <;> simp_all [go_sem]

theorem cellsB_one (l : List UInt8) : ∀ u ∈ cellsB l, u.oneCell' = true := by
  intro u hu
  simp only [cellsB, List.mem_map] at hu
  obtain ⟨b, _, rfl⟩ := hu
  rfl
theorem four_hd4 (W : World) (n : Nat) : ∀ j u, (cellsB (hd4 n))[j]? = some u →
    (W.alloc (.cells #[.int .u8 ((n : Int) / 16777216 % 256), .int .u8 ((n : Int) / 65536 % 256), .int .u8 ((n : Int) / 256 % 256), .int .u8 ((n : Int) % 256)] 5)).cell? ((⟨W.heap.size, 0, none⟩ : Addr).add j) = some u := by
  intro j u h
  rw [cellsB_hd4] at h
  exact four_cells j u h
set_option maxHeartbeats 400000 in
theorem pack_calls (ss : List ByteArray) (a : Option Addr) (cap : Nat) (w : World) (hlen : ss.length ≤ 1000000) (hsz : (packB ss).length ≤ 1073741824)
    (hcell : ∀ i (h : i < ss.length), ∃ b off, a = some ⟨b, off, none⟩ ∧ b < w.heap.size ∧ w.cell? ⟨b, off + i, none⟩ = some (.string ss[i])) :
    Calls Try.prog 19 #[.slice a ss.length cap] w fun e w' => e = .returned (.string (packed ss)) ∧ Below w.heap.size w w' := by
  obtain ⟨i0, hi, hz0, hz1, hz2⟩ := info_parts Try.info5
  have Hsz := Lib.hid hsz
  have Hcell := Lib.hid hcell
  clear hsz hcell
  go_enter Try.func19, Try.ntmps19
  go_wp2
  go_loopw [3, 8] (fun v i wr => ∃ k : Nat, k ≤ ss.length ∧ i = .int .i64 k ∧ wr.ownsRow w.heap.size 5 1 v (packB (ss.take k)).length (cellsB (packB (ss.take k))) ∧ Below w.heap.size w wr) (fun _ i _ => ss.length - (intOf i).toNat)
  case atStart => exact ⟨0, Nat.zero_le _, rfl, World.ownsRow_nil _ _ _ _, Below.refl _ _⟩
  case round =>
    obtain ⟨k, hk, rfl, hown, hB⟩ := hrel
    by_cases hlt : k < ss.length
    · obtain ⟨b, off, rfl, hb, hc⟩ := Hcell.out k hlt
      have hc' : wr.cell? ⟨b, off + k, none⟩ = some (.string ss[k]) := (hB.cell (p := ⟨b, off + k, none⟩) hb).trans hc
      have hB0 := hB.size
      have Hs := Lib.hid hB.size
      have htk : ss.take (k + 1) = ss.take k ++ [ss[k]] := List.take_succ_eq_append_getElem hlt
      have Htk := Lib.hid (packB_snoc (ss.take k) ss[k])
      rw [← htk] at Htk
      have hle : (packB (ss.take (k + 1))).length ≤ (packB ss).length := by
        have := congrArg List.length (packB_append (ss.take (k + 1)) (ss.drop (k + 1)))
        rw [List.take_append_drop, List.length_append] at this
        omega
      have hll : (packB (ss.take k)).length + 4 + ss[k].size ≤ 1073741824 := by
        have h1 := congrArg List.length Htk.out
        rw [List.length_append, List.length_append] at h1
        have h2 := Hsz.out
        have h3 : (hd4 ss[k].size).length = 4 := rfl
        have h4 : ss[k].data.toList.length = ss[k].size := Array.length_toList
        omega
      generalize hP : packB (ss.take k) = P at *
      generalize ss[k] = s at *
      clear hle htk hc hP hB0 hb
      go_wp2_with fail
      refine (wide4 s.size _ (by omega)).mono ?_
      rintro e w' ⟨rfl, rfl⟩
      go_wp2_with (first | (at_builtin; refine wpList_append_own _ rfl _ _ 59 rfl w.heap.size 5 i0 (.int .u8 0) 1 1 Try.underlying59 hi hz0 hz1 hz2 rfl (by decide) _ _ _ rfl (hown.alloc _) ⟨wr.heap.size, 0, none⟩ 4 4 (cellsB (hd4 s.size)) rfl rfl (four_hd4 _ _) (cellsB_one _) (by unfold maxLen; omega) (by omega) (by have := Hs.out; simp; omega) ?_; intro v' w1 hown1 hgrow1 _; have hs1 : w.heap.size ≤ w1.heap.size := Nat.le_trans (by have := Hs.out; simp; omega) hgrow1.size) | (at_builtin; refine Lib.wpList_append_own_string _ rfl _ _ 59 9 rfl w.heap.size 5 i0 Try.underlying59 Try.underlying9 hi hz0 hz1 hz2 _ _ _ rfl hown1 s rfl (by unfold maxLen; omega) (by omega) hs1 ?_; intro v2 w2 hown2 hgrow2 _))
      refine ⟨⟨k + 1, by omega, by go_num, ?_, ?_⟩, by simp [intOf]; omega⟩
      · have e : (P ++ hd4 s.size ++ s.data.toList).length = P.length + 4 + s.size := by
          rw [List.length_append, List.length_append]
          have h3 : (hd4 s.size).length = 4 := rfl
          have h4 : s.data.toList.length = s.size := Array.length_toList
          omega
        rw [Htk.out, e, cellsB_append, cellsB_append]
        exact hown2
      · exact (((hB.alloc Hs.out _).grown hgrow1 (by have := Hs.out; simp; omega) (fun k hk => (hown.lt k hk).1)).grown hgrow2 hs1 (fun k hk => (hown1.lt k hk).1))
    · have hke : k = ss.length := by omega
      rw [hke, List.take_length] at hown
      have hcv := conv_owned hown rfl
      clear hke
      go_wp2
      go_ret
      exact ⟨rfl, hB⟩
end Go.Proofs.Ytingoaklioplaaa
