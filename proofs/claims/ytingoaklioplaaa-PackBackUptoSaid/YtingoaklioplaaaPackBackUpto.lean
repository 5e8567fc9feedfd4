/- The statement PackBackUpto: at any list of texts of bulk at most 1048576 the law returns true: Pack agrees with the reference, Split and All give the texts back. Condition: the statement's own bound. -/
import Derived.Test.YtingoaklioplaaaRows
import Derived.Test.YtingoaklioplaaaSkBelow
import Derived.Test.YtingoaklioplaaaPackBack
import Derived.ProofKit
import Derived.JoinedCond
import Derived.SliceStrings
namespace Go.Proofs.Ytingoaklioplaaa.packBack
open Go.ChangeShapes Go.WideShapes Go.ChangeAt Go.RowKit
set_option linter.unusedVariables false

theorem own : ownKnob Try.prog.godebug = none := by kernel_rfl
theorem laidOut : laidOutB Try.prog = true := by kernel_rfl
theorem cells9 : Try.prog.cellsOf 9 = 1 := by kernel_rfl

theorem bulk_append {H : Type} (l r : List (DataW H)) : Rows.uptoBulkAll (l ++ r) = Rows.uptoBulkAll l + Rows.uptoBulkAll r := by
  induction l with
  | nil => simp [Rows.uptoBulkAll]
  | cons x l ih => simp only [List.cons_append, Rows.uptoBulkAll, ih]; omega
theorem bulk_strs {H : Type} : ∀ (l : List ByteArray), (packB l).length ≤ 4 * Rows.uptoBulkAll (strs (H := H) l)
  | [] => by simp [packB]
  | s :: l => by
    have ih := bulk_strs (H := H) l
    have hl : s.data.toList.length = s.size := Array.length_toList
    have e : strs (H := H) (s :: l) = .lit (.string s.data.toList) :: strs l := rfl
    rw [e, packB, List.length_append, List.length_append, hd4_length]
    simp only [Rows.uptoBulkAll, Rows.uptoBulk]
    omega
theorem pack_take (l : List ByteArray) (n : Nat) : (packB (l.take n)).length ≤ (packB l).length := by
  have := congrArg List.length (packB_append (l.take n) (l.drop n))
  rw [List.take_append_drop, List.length_append] at this
  omega
theorem rows_at {W : World} {a : Addr} {len : Nat} {ss : List ByteArray} (hlen : len ≤ ss.length) (hc : ∀ i, i < ss.length → W.cell? (a.add i) = some (.string (ss.getD i ByteArray.empty))) : RowAt (some a) (ss.take len) W := by
  intro i hi
  rw [List.length_take] at hi
  obtain ⟨g, off, spot⟩ := a
  have hspot : spot = none := by simpa [Addr.add] using World.cell?_spot (hc 0 (by omega))
  subst hspot
  have hci := hc i (by omega)
  rw [Addr.add_lit] at hci
  refine ⟨g, off, rfl, lt_of_cell hci, ?_⟩
  rw [hci, List.getElem_take]
  simp [List.getD, List.getElem?_eq_getElem (show i < ss.length by omega)]

theorem contract (H : Type) (enc : TypeId × Value → H) (W : World) (base : Nat) (args : Array Value) (ds gs : List (DataW H)) (before : List MemPlace)
    (hval : ∀ (j : Nat) t v, Try.f6.params[j]? = some t → args[j]? = some v → Value.okWide Try.prog W .any base t v)
    (hW : DataW.Whole enc Try.prog Try.f6.params.toList Rows.packBackSpec.vars false W args.toList ds gs before) (hk : Rows.uptoSmall H (ds ++ gs) = true) :
    Calls Try.prog 6 args W fun e W' => ∃ v, e = .returned v ∧ Rows.packBackSpec.post enc Try.prog Try.f6 false true false false W args v W' := by
  have hW' := hW
  obtain ⟨p, q, hA0, hV, rfl, hfz, hnd⟩ := hW
  have hA : DataW.TrodAll enc Try.prog W 0 (fun _ => true) true Try.f6.params.toList args.toList ds p := hA0
  rw [Try.params6] at hA hval
  obtain ⟨v0, vs0, d0, ds0, p0, q0, hargs, rfl, rfl, h0, r0⟩ := trodAll_cons hA
  obtain ⟨rfl, rfl, rfl⟩ := trodAll_nil r0
  obtain rfl : args = #[v0] := by cases args; simp_all
  obtain ⟨rfl, rfl⟩ := trodVars_none hV
  obtain ⟨a0, len, cap, rfl⟩ := okWide_slice Try.underlying32 (hval 0 32 v0 rfl rfl)
  clear hA0
  simp only [List.append_nil] at hW' hk
  have hlt : ∀ x ∈ p0, x.block < W.heap.size := fun x hx => by simpa using hW'.lt x hx
  have h0k := h0
  have hb : Rows.uptoBulkAll [d0] ≤ 1048576 := of_decide_eq_true hk
  obtain ⟨fuel, hf⟩ := h0
  have fin : ∀ ts : List ByteArray, ts.length = len → len ≤ cap → cap ≤ maxLen → (packB ts).length ≤ 4194304 → RowAt a0 ts W →
      Calls Try.prog 6 #[.slice a0 len cap] W fun e W' => ∃ v, e = .returned v ∧ Rows.packBackSpec.post enc Try.prog Try.f6 false true false false W #[.slice a0 len cap] v W' := by
    intro ts hts hlc hcm hsz hr
    subst hts
    refine (back_walk ts a0 cap hlc (by unfold maxLen at hcm; omega) W (Nat.le_trans (pack_take ts 20) hsz) hr).mono fun e W' ⟨he, hB⟩ => ?_
    subst he
    exact ⟨_, rfl, post_below (pa := p0) (pv := []) hW' (fun _ _ _ => trodAll_cons_mk (shut_bool Try.underlying4 _) trodAll_mk0) (trodAll_mk1 (Below.trod laidOut (by kernel_rfl) (of_decide_eq_true (by kernel_rfl)) h0k hB hlt)) rfl hB⟩
  rcases open_strings Try.underlying32 Try.underlying9 cells9 hf with ⟨hcs, hx⟩ | ⟨a, len', cap', ss, hcs, _, hl, hm, hz, hx, hcell, hws⟩
  · simp only [Value.cells] at hcs
    simp at hcs
    obtain ⟨rfl, rfl, rfl⟩ := hcs
    exact fin [] rfl (Nat.le_refl _) (Nat.zero_le _) (by decide) (fun i hi => absurd hi (by simp))
  · simp only [Value.cells] at hcs
    simp at hcs
    obtain ⟨rfl, rfl, rfl⟩ := hcs
    have hd := (Prod.mk.inj hx).1
    subst hd
    have hz' : ss.length = cap := by simpa using hz
    refine fin (ss.take len) (by rw [List.length_take]; omega) hl hm ?_ (rows_at (by omega) hcell)
    have h1 := bulk_strs (H := H) (ss.take len)
    simp only [Rows.uptoBulkAll, Rows.uptoBulk] at hb
    omega

set_option maxRecDepth 100000 in
theorem lifted (os : Os) (started : os.Started) (H : Type) (enc : TypeId × Value → H) (F : Stop.Interp) :
    ReturnsInHanded {} Try.checked os 6 .any ((Rows.OpenSpec.upto Rows.packBackSpec).pre6 enc Try.prog Try.f6 Rows.packBackUptoRow.domain false) (((Rows.OpenSpec.upto Rows.packBackSpec).at F).post enc Try.prog Try.f6 false true false false) := by
  refine returnsInHanded_of_cond (C := Try.checked) (s := Rows.OpenSpec.upto Rows.packBackSpec) (k := Rows.uptoSmall) rfl own started (by kernel_rfl) Try.func6
    (OpenSpec.witness (enc := enc) (C := Try.checked) (s := Rows.OpenSpec.upto Rows.packBackSpec) (k := Rows.uptoSmall) rfl false ⟨#[], #[.slice none 0 0], []⟩ 8 (by kernel_rfl) (by kernel_rfl) (by kernel_rfl)
      (x := ([.nil], [], [])) (by kernel_rfl) rfl (by kernel_rfl)) ?_
  intro W base args ds gs before hval hW _ hk _
  exact contract H enc W base args ds gs before hval hW hk

theorem over : Rows.packBackUptoRow.holds Try.pinned (Rows.OpenSpec.upto Rows.packBackSpec) :=
  OpenClaim.holds_of_cond 6 Try.f6 rfl rfl rfl rfl rfl rfl rfl ⟨rfl, rfl, rfl, rfl, rfl⟩ rfl rfl rfl rfl rfl (by kernel_rfl) Try.func6 (by kernel_rfl)
    (of_decide_eq_true (by kernel_rfl)) (by unfold Func.isWrapper; first | (rw [if_pos (by decide +kernel)]; kernel_rfl) | (rw [if_neg (by decide +kernel)]; exact ⟨rfl, rfl⟩))
    (fun os started H enc _ F => lifted os started H enc F)

theorem proved : Rows.PackBackUptoSaid :=
  over
#print axioms proved
end Go.Proofs.Ytingoaklioplaaa.packBack
