/-
  No cell of these rows narrows 'for every input' (looked for: loops, veiled, ifaces, maps, wideKeys, modest, calm, conditions, laid).
  DERIVED. THE GIVEN ROWS OF THIS SEAT. 7 by the template 'for every input the law returns true; each argument reads behind the call as it read before'; 0 by the template 'total and deterministic' (their statements: YtingoaklioplaaaTotals.lean).
  GIVEN WITH THE SEED: the statements are not yours to turn. If you find one false, say at which input.
  Laid BY PROGRAM, IN A SANDBOX (cutbox-rows.mjs): the forced cells as the released guide's own fill.sh prints them over the translation f9c360f65e589d84… (all of the seat's roots in one cut). By AI agents, Wed Nov 11 2026. No macro, syntax, notation, axiom, sorry.
-/
import Derived.Test.YtingoaklioplaaaChecked
import GoSem.Claim
import GoSem.ClaimJoined
import GoSem.ClaimMapViews
import Derived.JoinedTies
import Derived.KernelRfl
namespace Go.Proofs.Ytingoaklioplaaa
/- THE CELL 'sum', in the pinned program and in every row, IS THE sha256 OF THE DUMP (.gsa) THAT YtingoaklioplaaaProg.lean LOADS. Nothing in Lean hashes anything: it is a label: what it is worth is what the hold of that sum in a sandbox is worth. -/
noncomputable def Try.pinned : Pinned := { name := "ytingoaklioplaaa", sum := "f9c360f65e589d84a68eaa979659d95200ccde6a96c054b5b9325f53b83640aa", checked := Try.checked }
namespace Rows
def none {H : Type} : Left H := { results := [], args := [] }

/-- 'regraterlaw05.HashSums': WHATEVER THE INPUT: true; the input reads as it did. -/
def hashSumsSpec : ChangeSpec := { name := "hashSums", fn := fun _ => fun
  | [d1, d2, d3] => { results := [.lit (.bool true)], args := [d1, d2, d3] }
  | _ => none }
def hashSumsRow : OpenClaim := { program := "ytingoaklioplaaa", sum := "f9c360f65e589d84a68eaa979659d95200ccde6a96c054b5b9325f53b83640aa", func := "regrater/regraterlaw05.HashSums", spec := "hashSums", apart := false }
def HashSumsSaid : Prop := hashSumsRow.holds Try.pinned (OpenSpec.ofChange hashSumsSpec)

/-- ITS FALSE NEIGHBOUR: 'it returns false'. Refute it at one input. -/
def hashSumsWrong : ChangeSpec := { name := "hashSums", fn := fun _ => fun
  | [d1, d2, d3] => { results := [.lit (.bool false)], args := [d1, d2, d3] }
  | _ => none }
def HashSumsWrongFalsely : Prop := hashSumsRow.holds Try.pinned (OpenSpec.ofChange hashSumsWrong)

/-- 'regraterlaw05.HashDigits': WHATEVER THE INPUT: true; the input reads as it did. -/
def hashDigitsSpec : ChangeSpec := { name := "hashDigits", fn := fun _ => fun
  | [d] => { results := [.lit (.bool true)], args := [d] }
  | _ => none }
def hashDigitsRow : OpenClaim := { program := "ytingoaklioplaaa", sum := "f9c360f65e589d84a68eaa979659d95200ccde6a96c054b5b9325f53b83640aa", func := "regrater/regraterlaw05.HashDigits", spec := "hashDigits", apart := false }
def HashDigitsSaid : Prop := hashDigitsRow.holds Try.pinned (OpenSpec.ofChange hashDigitsSpec)

/-- ITS FALSE NEIGHBOUR: 'it returns false'. Refute it at one input. -/
def hashDigitsWrong : ChangeSpec := { name := "hashDigits", fn := fun _ => fun
  | [d] => { results := [.lit (.bool false)], args := [d] }
  | _ => none }
def HashDigitsWrongFalsely : Prop := hashDigitsRow.holds Try.pinned (OpenSpec.ofChange hashDigitsWrong)

/-- 'regraterlaw04.PackInts': WHATEVER THE INPUT: true; the input reads as it did. -/
def packIntsSpec : ChangeSpec := { name := "packInts", fn := fun _ => fun
  | [d1, d2, d3] => { results := [.lit (.bool true)], args := [d1, d2, d3] }
  | _ => none }
def packIntsRow : OpenClaim := { program := "ytingoaklioplaaa", sum := "f9c360f65e589d84a68eaa979659d95200ccde6a96c054b5b9325f53b83640aa", func := "regrater/regraterlaw04.PackInts", spec := "packInts", apart := false }
def PackIntsSaid : Prop := packIntsRow.holds Try.pinned (OpenSpec.ofChange packIntsSpec)

/-- ITS FALSE NEIGHBOUR: 'it returns false'. Refute it at one input. -/
def packIntsWrong : ChangeSpec := { name := "packInts", fn := fun _ => fun
  | [d1, d2, d3] => { results := [.lit (.bool false)], args := [d1, d2, d3] }
  | _ => none }
def PackIntsWrongFalsely : Prop := packIntsRow.holds Try.pinned (OpenSpec.ofChange packIntsWrong)

/-- 'regraterlaw04.PackBack': WHATEVER THE INPUT: true; the input reads as it did. -/
def packBackSpec : ChangeSpec := { name := "packBack", fn := fun _ => fun
  | [d] => { results := [.lit (.bool true)], args := [d] }
  | _ => none }
def packBackRow : OpenClaim := { program := "ytingoaklioplaaa", sum := "f9c360f65e589d84a68eaa979659d95200ccde6a96c054b5b9325f53b83640aa", func := "regrater/regraterlaw04.PackBack", spec := "packBack", unfollowed := true, recurses := true, apart := false }
def PackBackSaid : Prop := packBackRow.holds Try.pinned (OpenSpec.ofChange packBackSpec)

/-- ITS FALSE NEIGHBOUR: 'it returns false'. Refute it at one input. -/
def packBackWrong : ChangeSpec := { name := "packBack", fn := fun _ => fun
  | [d] => { results := [.lit (.bool false)], args := [d] }
  | _ => none }
def PackBackWrongFalsely : Prop := packBackRow.holds Try.pinned (OpenSpec.ofChange packBackWrong)

/-- 'regraterlaw04.PackReads': WHATEVER THE INPUT: true; the input reads as it did. -/
def packReadsSpec : ChangeSpec := { name := "packReads", fn := fun _ => fun
  | [d] => { results := [.lit (.bool true)], args := [d] }
  | _ => none }
def packReadsRow : OpenClaim := { program := "ytingoaklioplaaa", sum := "f9c360f65e589d84a68eaa979659d95200ccde6a96c054b5b9325f53b83640aa", func := "regrater/regraterlaw04.PackReads", spec := "packReads", unfollowed := true, recurses := true, apart := false }
def PackReadsSaid : Prop := packReadsRow.holds Try.pinned (OpenSpec.ofChange packReadsSpec)

/-- ITS FALSE NEIGHBOUR: 'it returns false'. Refute it at one input. -/
def packReadsWrong : ChangeSpec := { name := "packReads", fn := fun _ => fun
  | [d] => { results := [.lit (.bool false)], args := [d] }
  | _ => none }
def PackReadsWrongFalsely : Prop := packReadsRow.holds Try.pinned (OpenSpec.ofChange packReadsWrong)

/-- 'regraterlaw03.DirtyPlays': WHATEVER THE INPUT: true; the input reads as it did. -/
def dirtyPlaysSpec : ChangeSpec := { name := "dirtyPlays", fn := fun _ => fun
  | [d1, d2] => { results := [.lit (.bool true)], args := [d1, d2] }
  | _ => none }
def dirtyPlaysRow : OpenClaim := { program := "ytingoaklioplaaa", sum := "f9c360f65e589d84a68eaa979659d95200ccde6a96c054b5b9325f53b83640aa", func := "regrater/regraterlaw03.DirtyPlays", spec := "dirtyPlays", unfollowed := true, recurses := true, apart := false }
def DirtyPlaysSaid : Prop := dirtyPlaysRow.holds Try.pinned (OpenSpec.ofChange dirtyPlaysSpec)

/-- ITS FALSE NEIGHBOUR: 'it returns false'. Refute it at one input. -/
def dirtyPlaysWrong : ChangeSpec := { name := "dirtyPlays", fn := fun _ => fun
  | [d1, d2] => { results := [.lit (.bool false)], args := [d1, d2] }
  | _ => none }
def DirtyPlaysWrongFalsely : Prop := dirtyPlaysRow.holds Try.pinned (OpenSpec.ofChange dirtyPlaysWrong)

/-- 'regraterlaw03.DirtyAgain': WHATEVER THE INPUT: true; the input reads as it did. -/
def dirtyAgainSpec : ChangeSpec := { name := "dirtyAgain", fn := fun _ => fun
  | [d] => { results := [.lit (.bool true)], args := [d] }
  | _ => none }
def dirtyAgainRow : OpenClaim := { program := "ytingoaklioplaaa", sum := "f9c360f65e589d84a68eaa979659d95200ccde6a96c054b5b9325f53b83640aa", func := "regrater/regraterlaw03.DirtyAgain", spec := "dirtyAgain", unfollowed := true, recurses := true, apart := false }
def DirtyAgainSaid : Prop := dirtyAgainRow.holds Try.pinned (OpenSpec.ofChange dirtyAgainSpec)

/-- ITS FALSE NEIGHBOUR: 'it returns false'. Refute it at one input. -/
def dirtyAgainWrong : ChangeSpec := { name := "dirtyAgain", fn := fun _ => fun
  | [d] => { results := [.lit (.bool false)], args := [d] }
  | _ => none }
def DirtyAgainWrongFalsely : Prop := dirtyAgainRow.holds Try.pinned (OpenSpec.ofChange dirtyAgainWrong)

/- THE SECOND FORM. 'bulk': how many values and letters a reading holds, each counted each time it is reached (what is shared counts as often as it is met; a slice's spare places count too). A statement '..UptoSaid' is the law's where the arguments, and the package variables that the reading takes, are together of bulk at most 1048576: NARROWER than '..Said'. Prove '..Said' where nothing that the law and all that it calls make is longer than what came in: it says more and counts as full. Else prove '..UptoSaid'. A law counts once. -/
mutual
def uptoBulk {H : Type} : DataW H → Nat
  | .lit (.string bytes) => bytes.length + 1
  | .lit _ => 1
  | .nil => 1
  | .ptr d => uptoBulk d + 1
  | .slice elems spare => uptoBulkAll elems + uptoBulkAll spare + 1
  | .agg parts => uptoBulkAll parts + 1
  | .iface _ d => uptoBulk d + 1
  | .map entries => uptoBulkEntries entries + 1
  | .held _ => 1
def uptoBulkAll {H : Type} : List (DataW H) → Nat
  | [] => 0
  | d :: r => uptoBulk d + uptoBulkAll r
def uptoBulkEntries {H : Type} : List (Lit × DataW H) → Nat
  | [] => 0
  | x :: r => uptoBulkEntry x + uptoBulkEntries r
def uptoBulkEntry {H : Type} : Lit × DataW H → Nat
  | (.string bytes, d) => bytes.length + uptoBulk d + 1
  | (_, d) => uptoBulk d + 1
 end
def uptoSmall : (H : Type) → List (DataW H) → Bool := fun _ ds => decide (uptoBulkAll ds ≤ 1048576)
def OpenSpec.upto (s : _root_.Go.ChangeSpec) : _root_.Go.OpenSpec := { _root_.Go.OpenSpec.ofChange s with cond := some uptoSmall }

/-- 'regraterlaw05.HashSums', WHERE WHAT IT READS IS OF BULK AT MOST 1048576: true; the input reads as it did. -/
def hashSumsUptoRow : OpenClaim := { program := "ytingoaklioplaaa", sum := "f9c360f65e589d84a68eaa979659d95200ccde6a96c054b5b9325f53b83640aa", func := "regrater/regraterlaw05.HashSums", spec := "hashSums", apart := false, narrowed := true }
def HashSumsUptoSaid : Prop := hashSumsUptoRow.holds Try.pinned (OpenSpec.upto hashSumsSpec)

/-- 'regraterlaw05.HashDigits', WHERE WHAT IT READS IS OF BULK AT MOST 1048576: true; the input reads as it did. -/
def hashDigitsUptoRow : OpenClaim := { program := "ytingoaklioplaaa", sum := "f9c360f65e589d84a68eaa979659d95200ccde6a96c054b5b9325f53b83640aa", func := "regrater/regraterlaw05.HashDigits", spec := "hashDigits", apart := false, narrowed := true }
def HashDigitsUptoSaid : Prop := hashDigitsUptoRow.holds Try.pinned (OpenSpec.upto hashDigitsSpec)

/-- 'regraterlaw04.PackInts', WHERE WHAT IT READS IS OF BULK AT MOST 1048576: true; the input reads as it did. -/
def packIntsUptoRow : OpenClaim := { program := "ytingoaklioplaaa", sum := "f9c360f65e589d84a68eaa979659d95200ccde6a96c054b5b9325f53b83640aa", func := "regrater/regraterlaw04.PackInts", spec := "packInts", apart := false, narrowed := true }
def PackIntsUptoSaid : Prop := packIntsUptoRow.holds Try.pinned (OpenSpec.upto packIntsSpec)

/-- 'regraterlaw04.PackBack', WHERE WHAT IT READS IS OF BULK AT MOST 1048576: true; the input reads as it did. -/
def packBackUptoRow : OpenClaim := { program := "ytingoaklioplaaa", sum := "f9c360f65e589d84a68eaa979659d95200ccde6a96c054b5b9325f53b83640aa", func := "regrater/regraterlaw04.PackBack", spec := "packBack", unfollowed := true, recurses := true, apart := false, narrowed := true }
def PackBackUptoSaid : Prop := packBackUptoRow.holds Try.pinned (OpenSpec.upto packBackSpec)

/-- 'regraterlaw04.PackReads', WHERE WHAT IT READS IS OF BULK AT MOST 1048576: true; the input reads as it did. -/
def packReadsUptoRow : OpenClaim := { program := "ytingoaklioplaaa", sum := "f9c360f65e589d84a68eaa979659d95200ccde6a96c054b5b9325f53b83640aa", func := "regrater/regraterlaw04.PackReads", spec := "packReads", unfollowed := true, recurses := true, apart := false, narrowed := true }
def PackReadsUptoSaid : Prop := packReadsUptoRow.holds Try.pinned (OpenSpec.upto packReadsSpec)

/-- 'regraterlaw03.DirtyPlays', WHERE WHAT IT READS IS OF BULK AT MOST 1048576: true; the input reads as it did. -/
def dirtyPlaysUptoRow : OpenClaim := { program := "ytingoaklioplaaa", sum := "f9c360f65e589d84a68eaa979659d95200ccde6a96c054b5b9325f53b83640aa", func := "regrater/regraterlaw03.DirtyPlays", spec := "dirtyPlays", unfollowed := true, recurses := true, apart := false, narrowed := true }
def DirtyPlaysUptoSaid : Prop := dirtyPlaysUptoRow.holds Try.pinned (OpenSpec.upto dirtyPlaysSpec)

/-- 'regraterlaw03.DirtyAgain', WHERE WHAT IT READS IS OF BULK AT MOST 1048576: true; the input reads as it did. -/
def dirtyAgainUptoRow : OpenClaim := { program := "ytingoaklioplaaa", sum := "f9c360f65e589d84a68eaa979659d95200ccde6a96c054b5b9325f53b83640aa", func := "regrater/regraterlaw03.DirtyAgain", spec := "dirtyAgain", unfollowed := true, recurses := true, apart := false, narrowed := true }
def DirtyAgainUptoSaid : Prop := dirtyAgainUptoRow.holds Try.pinned (OpenSpec.upto dirtyAgainSpec)

end Rows
end Go.Proofs.Ytingoaklioplaaa
