/- The walk of the law's speaks for package pack: it answers true. No condition. -/
import Derived.Test.YtingoaklioplaaaPackPack
namespace Go.Proofs.Ytingoaklioplaaa
open Go.RowKit
set_option linter.unusedVariables false

def strA : ByteArray := ⟨#[97]⟩
def strE : ByteArray := ⟨#[]⟩
def strP : ByteArray := ⟨#[0, 0, 0, 1, 97, 0, 0, 0, 0]⟩
theorem packed_ae : packed [strA, strE] = strP := by rfl
theorem ends_ae : Ends strP [strA, strE] strE := by
  refine ⟨⟨#[0, 0, 0, 0]⟩, ?_, strE, ?_, ?_, rfl⟩ <;> decide +kernel
theorem own_some {w : World} {B : Nat} {e : TypeId} {v : Value} {n : Nat} {xs : List Value} (h : w.ownsRow B e 1 v n xs) (hn : 0 < n) :
    ∃ g cap, v = .slice (some ⟨g, 0, none⟩) n cap ∧ B ≤ g ∧ g < w.heap.size ∧ ∀ i (hi : i < xs.length), w.cell? ⟨g, i, none⟩ = some xs[i] := by
  rcases h.2 with ⟨rfl, h0⟩ | ⟨g, cap, cur, rfl, hbg, _⟩
  · omega
  · refine ⟨g, cap, rfl, hbg, (h.lt g rfl).2, fun i hi => ?_⟩
    have := h.cells (g := g) rfl i xs[i] (List.getElem?_eq_getElem hi)
    rw [Addr.add_lit, Nat.zero_add] at this
    exact this

set_option maxHeartbeats 400000 in
theorem speaks4 (w : World) : Calls Try.prog 15 #[] w fun e w' => e = .returned (.bool true) ∧ Below w.heap.size w w' := by
  go_enter Try.func15, Try.ntmps15
  go_wp2_with fail
  refine (pack_calls [strA, strE] _ 2 _ (by decide) (by decide) ?_).mono ?_
  · intro i hi
    have : i = 0 ∨ i = 1 := by simp at hi; omega
    rcases this with rfl | rfl
    · exact ⟨w.heap.size, 0, rfl, by simp, by simp [go_sem, strA]⟩
    · exact ⟨w.heap.size, 0, rfl, by simp, by simp [go_sem, strE]⟩
  rintro e w1 ⟨rfl, hB1⟩
  rw [packed_ae]
  go_wp2_with fail
  refine (split_calls strP strE [strA, strE] _ (by decide) ends_ae).mono ?_
  rintro e w2 ⟨hB2, (⟨_, v, rfl, hown⟩ | ⟨h, _⟩)⟩
  · obtain ⟨g, cap, rfl, hg1, hg2, hc⟩ := own_some hown (by decide)
    have hc0 := hc 0 (by decide)
    go_wp2_with fail
    refine (int_calls (-7) _ (by decide) (by decide)).mono ?_
    rintro e w3 ⟨rfl, hB3⟩
    have hc3 : w3.cell? ⟨g, 0, none⟩ = some (.string strA) := (hB3.cell (p := ⟨g, 0, none⟩) hg2).trans hc0
    go_wp2_with fail
    refine (getint_yes _ _ rfl).mono ?_
    rw [bval_bs8 (by decide) (by decide), show up63 (-7) - 9223372036854775808 = -7 from rfl]
    rintro e w4 ⟨rfl, rfl⟩
    have hA : strA.toList = [97] := by rw [ByteArray.toList_eq]; rfl
    have hP : strP.toList = [0, 0, 0, 1, 97, 0, 0, 0, 0] := by rw [ByteArray.toList_eq]; rfl
    have s1 := hB1.size
    have s2 := hB2.size
    simp only [World.size_alloc] at s1
    have hfin : Below w.heap.size w w3 := (((below_al (Below.refl _ w) _).trans (hB1.mono (by simp))).trans (hB2.mono (by omega))).trans (hB3.mono (by omega))
    have Hfin := Lib.hid hfin
    clear hfin hB1 hB2 hB3 s1 s2 hown hc0 hc hg1 hg2
    go_wp2
    go_ret
    exact ⟨rfl, Hfin.out⟩
  · exact absurd rfl h
end Go.Proofs.Ytingoaklioplaaa
