/-
  No cell of these rows narrows 'for every input' (looked for: loops, veiled, ifaces, maps, wideKeys, modest, calm, conditions, laid).
  DERIVED. THE GIVEN ROWS OF THIS SEAT. 5 by the template 'for every input the law returns true; each argument reads behind the call as it read before'; 0 by the template 'total and deterministic' (their statements: YtchdmhpfppdohaaTotals.lean).
  GIVEN WITH THE SEED: the statements are not yours to turn. If you find one false, say at which input.
  Laid BY PROGRAM, IN A SANDBOX (cutbox-rows.mjs): the forced cells as the released guide's own fill.sh prints them over the translation 80fcedbab3ef9b98… (all of the seat's roots in one cut). By AI agents, Wed Nov 11 2026. No macro, syntax, notation, axiom, sorry.
-/
import Derived.Test.YtchdmhpfppdohaaChecked
import GoSem.Claim
import GoSem.ClaimJoined
import GoSem.ClaimMapViews
import Derived.JoinedTies
import Derived.KernelRfl
namespace Go.Proofs.Ytchdmhpfppdohaa
/- THE CELL 'sum', in the pinned program and in every row, IS THE sha256 OF THE DUMP (.gsa) THAT YtchdmhpfppdohaaProg.lean LOADS. Nothing in Lean hashes anything: it is a label: what it is worth is what the hold of that sum in a sandbox is worth. -/
noncomputable def Try.pinned : Pinned := { name := "ytchdmhpfppdohaa", sum := "80fcedbab3ef9b9835fcdddcda3f178c5f93d09428c5fa159682ec021af51b17", checked := Try.checked }
namespace Rows
def none {H : Type} : Left H := { results := [], args := [] }

/-- 'dovecotelaw13.RandomExact': WHATEVER THE INPUT: true; the input reads as it did. -/
def randomExactSpec : ChangeSpec := { name := "randomExact", fn := fun _ => fun
  | [d] => { results := [.lit (.bool true)], args := [d] }
  | _ => none }
def randomExactRow : OpenClaim := { program := "ytchdmhpfppdohaa", sum := "80fcedbab3ef9b9835fcdddcda3f178c5f93d09428c5fa159682ec021af51b17", func := "dovecote/dovecotelaw13.RandomExact", spec := "randomExact", apart := false }
def RandomExactSaid : Prop := randomExactRow.holds Try.pinned (OpenSpec.ofChange randomExactSpec)

/-- ITS FALSE NEIGHBOUR: 'it returns false'. Refute it at one input. -/
def randomExactWrong : ChangeSpec := { name := "randomExact", fn := fun _ => fun
  | [d] => { results := [.lit (.bool false)], args := [d] }
  | _ => none }
def RandomExactWrongFalsely : Prop := randomExactRow.holds Try.pinned (OpenSpec.ofChange randomExactWrong)

/-- 'dovecotelaw13.RandomRuns': WHATEVER THE INPUT: true; the input reads as it did. -/
def randomRunsSpec : ChangeSpec := { name := "randomRuns", fn := fun _ => fun
  | [d] => { results := [.lit (.bool true)], args := [d] }
  | _ => none }
def randomRunsRow : OpenClaim := { program := "ytchdmhpfppdohaa", sum := "80fcedbab3ef9b9835fcdddcda3f178c5f93d09428c5fa159682ec021af51b17", func := "dovecote/dovecotelaw13.RandomRuns", spec := "randomRuns", apart := false }
def RandomRunsSaid : Prop := randomRunsRow.holds Try.pinned (OpenSpec.ofChange randomRunsSpec)

/-- ITS FALSE NEIGHBOUR: 'it returns false'. Refute it at one input. -/
def randomRunsWrong : ChangeSpec := { name := "randomRuns", fn := fun _ => fun
  | [d] => { results := [.lit (.bool false)], args := [d] }
  | _ => none }
def RandomRunsWrongFalsely : Prop := randomRunsRow.holds Try.pinned (OpenSpec.ofChange randomRunsWrong)

/-- 'dovecotelaw13.RandomSpread': WHATEVER THE INPUT: true; the input reads as it did. -/
def randomSpreadSpec : ChangeSpec := { name := "randomSpread", fn := fun _ => fun
  | [d] => { results := [.lit (.bool true)], args := [d] }
  | _ => none }
def randomSpreadRow : OpenClaim := { program := "ytchdmhpfppdohaa", sum := "80fcedbab3ef9b9835fcdddcda3f178c5f93d09428c5fa159682ec021af51b17", func := "dovecote/dovecotelaw13.RandomSpread", spec := "randomSpread", apart := false }
def RandomSpreadSaid : Prop := randomSpreadRow.holds Try.pinned (OpenSpec.ofChange randomSpreadSpec)

/-- ITS FALSE NEIGHBOUR: 'it returns false'. Refute it at one input. -/
def randomSpreadWrong : ChangeSpec := { name := "randomSpread", fn := fun _ => fun
  | [d] => { results := [.lit (.bool false)], args := [d] }
  | _ => none }
def RandomSpreadWrongFalsely : Prop := randomSpreadRow.holds Try.pinned (OpenSpec.ofChange randomSpreadWrong)

/-- 'dovecotelaw9.SumExact': WHATEVER THE INPUT: true; the input reads as it did. -/
def sumExactSpec : ChangeSpec := { name := "sumExact", fn := fun _ => fun
  | [d] => { results := [.lit (.bool true)], args := [d] }
  | _ => none }
def sumExactRow : OpenClaim := { program := "ytchdmhpfppdohaa", sum := "80fcedbab3ef9b9835fcdddcda3f178c5f93d09428c5fa159682ec021af51b17", func := "dovecote/dovecotelaw9.SumExact", spec := "sumExact", apart := false }
def SumExactSaid : Prop := sumExactRow.holds Try.pinned (OpenSpec.ofChange sumExactSpec)

/-- ITS FALSE NEIGHBOUR: 'it returns false'. Refute it at one input. -/
def sumExactWrong : ChangeSpec := { name := "sumExact", fn := fun _ => fun
  | [d] => { results := [.lit (.bool false)], args := [d] }
  | _ => none }
def SumExactWrongFalsely : Prop := sumExactRow.holds Try.pinned (OpenSpec.ofChange sumExactWrong)

/-- 'dovecotelaw9.SumParts': WHATEVER THE INPUT: true; the input reads as it did. -/
def sumPartsSpec : ChangeSpec := { name := "sumParts", fn := fun _ => fun
  | [d] => { results := [.lit (.bool true)], args := [d] }
  | _ => none }
def sumPartsRow : OpenClaim := { program := "ytchdmhpfppdohaa", sum := "80fcedbab3ef9b9835fcdddcda3f178c5f93d09428c5fa159682ec021af51b17", func := "dovecote/dovecotelaw9.SumParts", spec := "sumParts", apart := false }
def SumPartsSaid : Prop := sumPartsRow.holds Try.pinned (OpenSpec.ofChange sumPartsSpec)

/-- ITS FALSE NEIGHBOUR: 'it returns false'. Refute it at one input. -/
def sumPartsWrong : ChangeSpec := { name := "sumParts", fn := fun _ => fun
  | [d] => { results := [.lit (.bool false)], args := [d] }
  | _ => none }
def SumPartsWrongFalsely : Prop := sumPartsRow.holds Try.pinned (OpenSpec.ofChange sumPartsWrong)

/- THE SECOND FORM. 'bulk': how many values and letters a reading holds, each counted each time it is reached (what is shared counts as often as it is met; a slice's spare places count too). A statement '..UptoSaid' is the law's where the arguments, and the package variables that the reading takes, are together of bulk at most 1048576: NARROWER than '..Said'. Prove '..Said' where nothing that the law and all that it calls make is longer than what came in: it says more and counts as full. Else prove '..UptoSaid'. A law counts once. -/
mutual
def uptoBulk {H : Type} : DataW H → Nat
  | .lit (.string bytes) => bytes.length + 1
  | .lit _ => 1
  | .nil => 1
  | .ptr d => uptoBulk d + 1
  | .slice elems spare => uptoBulkAll elems + uptoBulkAll spare + 1
  | .agg parts => uptoBulkAll parts + 1
  | .iface _ d => uptoBulk d + 1
  | .map entries => uptoBulkEntries entries + 1
  | .held _ => 1
def uptoBulkAll {H : Type} : List (DataW H) → Nat
  | [] => 0
  | d :: r => uptoBulk d + uptoBulkAll r
def uptoBulkEntries {H : Type} : List (Lit × DataW H) → Nat
  | [] => 0
  | x :: r => uptoBulkEntry x + uptoBulkEntries r
def uptoBulkEntry {H : Type} : Lit × DataW H → Nat
  | (.string bytes, d) => bytes.length + uptoBulk d + 1
  | (_, d) => uptoBulk d + 1
 end
def uptoSmall : (H : Type) → List (DataW H) → Bool := fun _ ds => decide (uptoBulkAll ds ≤ 1048576)
def OpenSpec.upto (s : _root_.Go.ChangeSpec) : _root_.Go.OpenSpec := { _root_.Go.OpenSpec.ofChange s with cond := some uptoSmall }

/-- 'dovecotelaw13.RandomExact', WHERE WHAT IT READS IS OF BULK AT MOST 1048576: true; the input reads as it did. -/
def randomExactUptoRow : OpenClaim := { program := "ytchdmhpfppdohaa", sum := "80fcedbab3ef9b9835fcdddcda3f178c5f93d09428c5fa159682ec021af51b17", func := "dovecote/dovecotelaw13.RandomExact", spec := "randomExact", apart := false, narrowed := true }
def RandomExactUptoSaid : Prop := randomExactUptoRow.holds Try.pinned (OpenSpec.upto randomExactSpec)

/-- 'dovecotelaw13.RandomRuns', WHERE WHAT IT READS IS OF BULK AT MOST 1048576: true; the input reads as it did. -/
def randomRunsUptoRow : OpenClaim := { program := "ytchdmhpfppdohaa", sum := "80fcedbab3ef9b9835fcdddcda3f178c5f93d09428c5fa159682ec021af51b17", func := "dovecote/dovecotelaw13.RandomRuns", spec := "randomRuns", apart := false, narrowed := true }
def RandomRunsUptoSaid : Prop := randomRunsUptoRow.holds Try.pinned (OpenSpec.upto randomRunsSpec)

/-- 'dovecotelaw13.RandomSpread', WHERE WHAT IT READS IS OF BULK AT MOST 1048576: true; the input reads as it did. -/
def randomSpreadUptoRow : OpenClaim := { program := "ytchdmhpfppdohaa", sum := "80fcedbab3ef9b9835fcdddcda3f178c5f93d09428c5fa159682ec021af51b17", func := "dovecote/dovecotelaw13.RandomSpread", spec := "randomSpread", apart := false, narrowed := true }
def RandomSpreadUptoSaid : Prop := randomSpreadUptoRow.holds Try.pinned (OpenSpec.upto randomSpreadSpec)

/-- 'dovecotelaw9.SumExact', WHERE WHAT IT READS IS OF BULK AT MOST 1048576: true; the input reads as it did. -/
def sumExactUptoRow : OpenClaim := { program := "ytchdmhpfppdohaa", sum := "80fcedbab3ef9b9835fcdddcda3f178c5f93d09428c5fa159682ec021af51b17", func := "dovecote/dovecotelaw9.SumExact", spec := "sumExact", apart := false, narrowed := true }
def SumExactUptoSaid : Prop := sumExactUptoRow.holds Try.pinned (OpenSpec.upto sumExactSpec)

/-- 'dovecotelaw9.SumParts', WHERE WHAT IT READS IS OF BULK AT MOST 1048576: true; the input reads as it did. -/
def sumPartsUptoRow : OpenClaim := { program := "ytchdmhpfppdohaa", sum := "80fcedbab3ef9b9835fcdddcda3f178c5f93d09428c5fa159682ec021af51b17", func := "dovecote/dovecotelaw9.SumParts", spec := "sumParts", apart := false, narrowed := true }
def SumPartsUptoSaid : Prop := sumPartsUptoRow.holds Try.pinned (OpenSpec.upto sumPartsSpec)

end Rows
end Go.Proofs.Ytchdmhpfppdohaa
