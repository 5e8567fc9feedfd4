/- A region that draws its order and only reads, inside a round of a range over a function: one walk in the text's order serves. Condition: no operation of it is a defer statement. -/
import Derived.Sort.BigQuietIn
import Derived.Sort.QuietIn
import Derived.TacticsIn
import Derived.RangeFuncCalls
namespace Go.Proofs.Ytingoaklioplaaa
open Go

/-- Is the operation no defer statement? -/
def noDefer (o : Oper) : Bool := match o.op with
  | .defer _ => false
  | _ => true
theorem noDefer_spec {o : Oper} (h : noDefer o = true) : ∀ c, o.op ≠ .defer c := by
  intro c e
  unfold noDefer at h
  rw [e] at h
  exact Bool.noConfusion h

theorem semAt_round {o : Oper} (h : noDefer o = true) (L : Nat) (ρ : Operand → Value) : Oper.semAt none ρ o = Oper.semAt (some L) ρ o := by
  rw [Oper.semAt_some L ρ o (noDefer_spec h)]; rfl

theorem wpOpIn_round {F : Fence} {n : Nat} {P : Program} {ops : Array Oper} {Q : Exit → Act → World → Prop} (hro : F.round = none) (hnd : ∀ (j : Nat) o, ops[j]? = some o → noDefer o = true) (L : Nat)
    {i : Nat} {K : Act → World → Prop} {a : Act} {w : World} (h : wpOpIn F n P ops Q i K a w) : wpOpIn (F.inRound L) n P ops Q i K a w := by
  unfold wpOpIn at *
  split
  · rename_i ho
    simp only [ho] at h
    exact h
  · rename_i o ho
    simp only [ho] at h
    split
    · rename_i hw
      simp only [hw, if_true] at h
      obtain ⟨ha, h⟩ := h
      rw [hro, semAt_round (hnd i o ho) L] at h
      exact ⟨ha, h⟩
    · rename_i hw
      simp only [hw] at h
      exact h

theorem wpAnyIn_round {F : Fence} {n : Nat} {P : Program} {md : Region.Mode} {ops : Array Oper} {Q : Exit → Act → World → Prop} (hro : F.round = none) (hnd : ∀ (j : Nat) o, ops[j]? = some o → noDefer o = true) (L : Nat) :
    ∀ (fuel : Nat) (listed : Array Bool) (a : Act) (w : World), wpAnyIn F n P md ops Q fuel listed a w → wpAnyIn (F.inRound L) n P md ops Q fuel listed a w := by
  intro fuel
  induction fuel with
  | zero => exact fun listed a w h => h
  | succ fuel ih =>
    intro listed a w h
    exact ⟨h.1, fun i hi => wpOpIn_round hro hnd L (wpOpIn_mono (fun a w => ih _ a w) (h.2 i hi))⟩

theorem wpIn_region_quiet_round {F : Fence} {n : Nat} {P : Program} {id : Nat} {Q : Exit → Act → World → Prop} {a : Act} {w : World} {l : List Oper} {L : Nat} (hro : F.round = none) (hm : P.follows .mixedOrders = true) (hB : Region.lexB .any l.toArray = true)
    (hd : l.all noDefer = true)
    (h : wpQuietIn F n P l.toArray (fun w' => ∃ n, w' = w.drewN n) (fun a' => ∀ w', (∃ n, w' = w.drewN n) → Q .normal a' w') l a) : (Code.region id l.toArray true).wpIn (F.inRound L) n P Q a w := by
  have hnd : ∀ (j : Nat) o, l.toArray[j]? = some o → noDefer o = true := by
    intro j o ho
    rw [List.getElem?_toArray] at ho
    exact List.all_eq_true.1 hd o (List.mem_of_getElem? ho)
  simp only [Region.lexB, Bool.and_eq_true] at hB
  refine wpIn_region_any hm (wpAnyIn_round hro hnd L _ _ _ _ (wpAnyIn_of_quiet (C := fun w' => ∃ n, w' = w.drewN n) (Q := fun a' => ∀ w', (∃ n, w' = w.drewN n) → Q .normal a' w') hro (fun _ w' hw' h => h w' hw') _ _ _ _ ⟨1, rfl⟩ ?_))
  have := wpAnyQIn_lex (F := F) (n := n) (C := fun w' => ∃ n, w' = w.drewN n) (md := .any) hB.1 l 0 (Array.replicate l.toArray.size false) a (by simp) (by simpa using hB.2) h
  simpa using this
end Go.Proofs.Ytingoaklioplaaa
