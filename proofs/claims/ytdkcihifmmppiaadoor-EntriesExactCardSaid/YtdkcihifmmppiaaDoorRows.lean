/-
  NARROWER THAN 'FOR EVERY INPUT', by the rows' own cells (each row's printed sentence says how): EntriesAppends: laid · EntriesLast: laid · EntriesCuts: laid · EntriesSlices: laid · EntriesNewer: laid · EntriesTerms: laid · EntriesCompacts: laid · EntriesMerge: laid · EntriesAgain: laid · EntriesExact: laid.
  DERIVED. THE GIVEN ROWS OF THIS SEAT. 10 by the template 'for every input the law returns true; each argument reads behind the call as it read before'; 0 by the template 'total and deterministic' (their statements: YtdkcihifmmppiaaDoorTotals.lean).
  GIVEN WITH THE SEED: the statements are not yours to turn. If you find one false, say at which input.
  Laid BY PROGRAM, IN A SANDBOX (cutbox-rows.mjs): the forced cells as the released guide's own fill.sh prints them over the translation 20ae91780de175db… (all of the seat's roots in one cut). By AI agents, Wed Nov 11 2026. No macro, syntax, notation, axiom, sorry.
-/
import Derived.Test.YtdkcihifmmppiaaDoorChecked
import GoSem.Claim
import GoSem.ClaimJoined
import GoSem.ClaimMapViews
import Derived.JoinedTies
import Derived.KernelRfl
namespace Go.Proofs.YtdkcihifmmppiaaDoor
/- THE CELL 'sum', in the pinned program and in every row, IS THE sha256 OF THE DUMP (.gsa) THAT YtdkcihifmmppiaaDoorProg.lean LOADS. Nothing in Lean hashes anything: it is a label: what it is worth is what the hold of that sum in a sandbox is worth. -/
noncomputable def Tryd.pinned : Pinned := { name := "ytdkcihifmmppiaadoor", sum := "20ae91780de175dbad11a859a9f4b55e2aa21d4b8b54ac6819efc1b585f1b12e", checked := Tryd.checked }
namespace Rows
def none {H : Type} : Left H := { results := [], args := [] }

/- WHAT THE LISTED PACKAGE-LEVEL VARIABLES READ AS WHEN THE CALL BEGINS. Each datum BY PROGRAM (the guide's laid-datum.mjs) off the statement by which the dump's own 'gosem.cut.vars' lays the variable. In a bare row this is a premise. The card (YtdkcihifmmppiaaDoorCards.lean) ties it to the program's text. -/
def laid_errors_errorType {H : Type} : DataW H := .iface "internal/reflectlite.rtype" (.agg [.ptr (.lit (.string [101, 114, 114, 111, 114]))])

/-- 'dovecotelaw15.EntriesAppends': WHATEVER THE INPUT: true; the input reads as it did. -/
def entriesAppendsSpec : ChangeSpec := { name := "entriesAppends", fn := fun _ => fun
  | [d] => { results := [.lit (.bool true)], args := [d] }
  | _ => none }
def entriesAppendsRow : OpenClaim := { program := "ytdkcihifmmppiaadoor", sum := "20ae91780de175dbad11a859a9f4b55e2aa21d4b8b54ac6819efc1b585f1b12e", func := "dovecote/dovecotelaw15.EntriesAppends", spec := "entriesAppends", inPlace := ["internal/reflectlite.ValueOf", "(internal/reflectlite.Value).Type", "(internal/reflectlite.Value).IsNil", "internal/reflectlite.TypeOf", "(internal/reflectlite.Value).Elem", "(internal/reflectlite.Value).Set"], unfollowed := true, recurses := true, named := ["errors.errorType"], apart := false, laid := [("errors.errorType", laid_errors_errorType)] }
def EntriesAppendsSaid : Prop := entriesAppendsRow.holds Tryd.pinned (OpenSpec.ofChange entriesAppendsSpec)

/-- ITS FALSE NEIGHBOUR: 'it returns false'. Refute it at one input. -/
def entriesAppendsWrong : ChangeSpec := { name := "entriesAppends", fn := fun _ => fun
  | [d] => { results := [.lit (.bool false)], args := [d] }
  | _ => none }
def EntriesAppendsWrongFalsely : Prop := entriesAppendsRow.holds Tryd.pinned (OpenSpec.ofChange entriesAppendsWrong)

/-- 'dovecotelaw15.EntriesLast': WHATEVER THE INPUT: true; the input reads as it did. -/
def entriesLastSpec : ChangeSpec := { name := "entriesLast", fn := fun _ => fun
  | [d] => { results := [.lit (.bool true)], args := [d] }
  | _ => none }
def entriesLastRow : OpenClaim := { program := "ytdkcihifmmppiaadoor", sum := "20ae91780de175dbad11a859a9f4b55e2aa21d4b8b54ac6819efc1b585f1b12e", func := "dovecote/dovecotelaw15.EntriesLast", spec := "entriesLast", inPlace := ["internal/reflectlite.ValueOf", "(internal/reflectlite.Value).Type", "(internal/reflectlite.Value).IsNil", "internal/reflectlite.TypeOf", "(internal/reflectlite.Value).Elem", "(internal/reflectlite.Value).Set"], unfollowed := true, recurses := true, named := ["errors.errorType"], apart := false, laid := [("errors.errorType", laid_errors_errorType)] }
def EntriesLastSaid : Prop := entriesLastRow.holds Tryd.pinned (OpenSpec.ofChange entriesLastSpec)

/-- ITS FALSE NEIGHBOUR: 'it returns false'. Refute it at one input. -/
def entriesLastWrong : ChangeSpec := { name := "entriesLast", fn := fun _ => fun
  | [d] => { results := [.lit (.bool false)], args := [d] }
  | _ => none }
def EntriesLastWrongFalsely : Prop := entriesLastRow.holds Tryd.pinned (OpenSpec.ofChange entriesLastWrong)

/-- 'dovecotelaw15.EntriesCuts': WHATEVER THE INPUT: true; the input reads as it did. -/
def entriesCutsSpec : ChangeSpec := { name := "entriesCuts", fn := fun _ => fun
  | [d] => { results := [.lit (.bool true)], args := [d] }
  | _ => none }
def entriesCutsRow : OpenClaim := { program := "ytdkcihifmmppiaadoor", sum := "20ae91780de175dbad11a859a9f4b55e2aa21d4b8b54ac6819efc1b585f1b12e", func := "dovecote/dovecotelaw15.EntriesCuts", spec := "entriesCuts", inPlace := ["internal/reflectlite.ValueOf", "(internal/reflectlite.Value).Type", "(internal/reflectlite.Value).IsNil", "internal/reflectlite.TypeOf", "(internal/reflectlite.Value).Elem", "(internal/reflectlite.Value).Set"], unfollowed := true, recurses := true, named := ["errors.errorType"], apart := false, laid := [("errors.errorType", laid_errors_errorType)] }
def EntriesCutsSaid : Prop := entriesCutsRow.holds Tryd.pinned (OpenSpec.ofChange entriesCutsSpec)

/-- ITS FALSE NEIGHBOUR: 'it returns false'. Refute it at one input. -/
def entriesCutsWrong : ChangeSpec := { name := "entriesCuts", fn := fun _ => fun
  | [d] => { results := [.lit (.bool false)], args := [d] }
  | _ => none }
def EntriesCutsWrongFalsely : Prop := entriesCutsRow.holds Tryd.pinned (OpenSpec.ofChange entriesCutsWrong)

/-- 'dovecotelaw15.EntriesSlices': WHATEVER THE INPUT: true; the input reads as it did. -/
def entriesSlicesSpec : ChangeSpec := { name := "entriesSlices", fn := fun _ => fun
  | [d] => { results := [.lit (.bool true)], args := [d] }
  | _ => none }
def entriesSlicesRow : OpenClaim := { program := "ytdkcihifmmppiaadoor", sum := "20ae91780de175dbad11a859a9f4b55e2aa21d4b8b54ac6819efc1b585f1b12e", func := "dovecote/dovecotelaw15.EntriesSlices", spec := "entriesSlices", inPlace := ["internal/reflectlite.ValueOf", "(internal/reflectlite.Value).Type", "(internal/reflectlite.Value).IsNil", "internal/reflectlite.TypeOf", "(internal/reflectlite.Value).Elem", "(internal/reflectlite.Value).Set"], unfollowed := true, recurses := true, named := ["errors.errorType"], apart := false, laid := [("errors.errorType", laid_errors_errorType)] }
def EntriesSlicesSaid : Prop := entriesSlicesRow.holds Tryd.pinned (OpenSpec.ofChange entriesSlicesSpec)

/-- ITS FALSE NEIGHBOUR: 'it returns false'. Refute it at one input. -/
def entriesSlicesWrong : ChangeSpec := { name := "entriesSlices", fn := fun _ => fun
  | [d] => { results := [.lit (.bool false)], args := [d] }
  | _ => none }
def EntriesSlicesWrongFalsely : Prop := entriesSlicesRow.holds Tryd.pinned (OpenSpec.ofChange entriesSlicesWrong)

/-- 'dovecotelaw15.EntriesNewer': WHATEVER THE INPUT: true; the input reads as it did. -/
def entriesNewerSpec : ChangeSpec := { name := "entriesNewer", fn := fun _ => fun
  | [d] => { results := [.lit (.bool true)], args := [d] }
  | _ => none }
def entriesNewerRow : OpenClaim := { program := "ytdkcihifmmppiaadoor", sum := "20ae91780de175dbad11a859a9f4b55e2aa21d4b8b54ac6819efc1b585f1b12e", func := "dovecote/dovecotelaw15.EntriesNewer", spec := "entriesNewer", inPlace := ["internal/reflectlite.ValueOf", "(internal/reflectlite.Value).Type", "(internal/reflectlite.Value).IsNil", "internal/reflectlite.TypeOf", "(internal/reflectlite.Value).Elem", "(internal/reflectlite.Value).Set"], unfollowed := true, recurses := true, named := ["errors.errorType"], apart := false, laid := [("errors.errorType", laid_errors_errorType)] }
def EntriesNewerSaid : Prop := entriesNewerRow.holds Tryd.pinned (OpenSpec.ofChange entriesNewerSpec)

/-- ITS FALSE NEIGHBOUR: 'it returns false'. Refute it at one input. -/
def entriesNewerWrong : ChangeSpec := { name := "entriesNewer", fn := fun _ => fun
  | [d] => { results := [.lit (.bool false)], args := [d] }
  | _ => none }
def EntriesNewerWrongFalsely : Prop := entriesNewerRow.holds Tryd.pinned (OpenSpec.ofChange entriesNewerWrong)

/-- 'dovecotelaw15.EntriesTerms': WHATEVER THE INPUT: true; the input reads as it did. -/
def entriesTermsSpec : ChangeSpec := { name := "entriesTerms", fn := fun _ => fun
  | [d] => { results := [.lit (.bool true)], args := [d] }
  | _ => none }
def entriesTermsRow : OpenClaim := { program := "ytdkcihifmmppiaadoor", sum := "20ae91780de175dbad11a859a9f4b55e2aa21d4b8b54ac6819efc1b585f1b12e", func := "dovecote/dovecotelaw15.EntriesTerms", spec := "entriesTerms", inPlace := ["internal/reflectlite.ValueOf", "(internal/reflectlite.Value).Type", "(internal/reflectlite.Value).IsNil", "internal/reflectlite.TypeOf", "(internal/reflectlite.Value).Elem", "(internal/reflectlite.Value).Set"], unfollowed := true, recurses := true, named := ["errors.errorType"], apart := false, laid := [("errors.errorType", laid_errors_errorType)] }
def EntriesTermsSaid : Prop := entriesTermsRow.holds Tryd.pinned (OpenSpec.ofChange entriesTermsSpec)

/-- ITS FALSE NEIGHBOUR: 'it returns false'. Refute it at one input. -/
def entriesTermsWrong : ChangeSpec := { name := "entriesTerms", fn := fun _ => fun
  | [d] => { results := [.lit (.bool false)], args := [d] }
  | _ => none }
def EntriesTermsWrongFalsely : Prop := entriesTermsRow.holds Tryd.pinned (OpenSpec.ofChange entriesTermsWrong)

/-- 'dovecotelaw15.EntriesCompacts': WHATEVER THE INPUT: true; the input reads as it did. -/
def entriesCompactsSpec : ChangeSpec := { name := "entriesCompacts", fn := fun _ => fun
  | [d] => { results := [.lit (.bool true)], args := [d] }
  | _ => none }
def entriesCompactsRow : OpenClaim := { program := "ytdkcihifmmppiaadoor", sum := "20ae91780de175dbad11a859a9f4b55e2aa21d4b8b54ac6819efc1b585f1b12e", func := "dovecote/dovecotelaw15.EntriesCompacts", spec := "entriesCompacts", inPlace := ["internal/reflectlite.ValueOf", "(internal/reflectlite.Value).Type", "(internal/reflectlite.Value).IsNil", "internal/reflectlite.TypeOf", "(internal/reflectlite.Value).Elem", "(internal/reflectlite.Value).Set"], unfollowed := true, recurses := true, named := ["errors.errorType"], apart := false, laid := [("errors.errorType", laid_errors_errorType)] }
def EntriesCompactsSaid : Prop := entriesCompactsRow.holds Tryd.pinned (OpenSpec.ofChange entriesCompactsSpec)

/-- ITS FALSE NEIGHBOUR: 'it returns false'. Refute it at one input. -/
def entriesCompactsWrong : ChangeSpec := { name := "entriesCompacts", fn := fun _ => fun
  | [d] => { results := [.lit (.bool false)], args := [d] }
  | _ => none }
def EntriesCompactsWrongFalsely : Prop := entriesCompactsRow.holds Tryd.pinned (OpenSpec.ofChange entriesCompactsWrong)

/-- 'dovecotelaw15.EntriesMerge': WHATEVER THE INPUT: true; the input reads as it did. -/
def entriesMergeSpec : ChangeSpec := { name := "entriesMerge", fn := fun _ => fun
  | [d] => { results := [.lit (.bool true)], args := [d] }
  | _ => none }
def entriesMergeRow : OpenClaim := { program := "ytdkcihifmmppiaadoor", sum := "20ae91780de175dbad11a859a9f4b55e2aa21d4b8b54ac6819efc1b585f1b12e", func := "dovecote/dovecotelaw15.EntriesMerge", spec := "entriesMerge", inPlace := ["internal/reflectlite.ValueOf", "(internal/reflectlite.Value).Type", "(internal/reflectlite.Value).IsNil", "internal/reflectlite.TypeOf", "(internal/reflectlite.Value).Elem", "(internal/reflectlite.Value).Set"], unfollowed := true, recurses := true, named := ["errors.errorType"], apart := false, laid := [("errors.errorType", laid_errors_errorType)] }
def EntriesMergeSaid : Prop := entriesMergeRow.holds Tryd.pinned (OpenSpec.ofChange entriesMergeSpec)

/-- ITS FALSE NEIGHBOUR: 'it returns false'. Refute it at one input. -/
def entriesMergeWrong : ChangeSpec := { name := "entriesMerge", fn := fun _ => fun
  | [d] => { results := [.lit (.bool false)], args := [d] }
  | _ => none }
def EntriesMergeWrongFalsely : Prop := entriesMergeRow.holds Tryd.pinned (OpenSpec.ofChange entriesMergeWrong)

/-- 'dovecotelaw15.EntriesAgain': WHATEVER THE INPUT: true; the input reads as it did. -/
def entriesAgainSpec : ChangeSpec := { name := "entriesAgain", fn := fun _ => fun
  | [d] => { results := [.lit (.bool true)], args := [d] }
  | _ => none }
def entriesAgainRow : OpenClaim := { program := "ytdkcihifmmppiaadoor", sum := "20ae91780de175dbad11a859a9f4b55e2aa21d4b8b54ac6819efc1b585f1b12e", func := "dovecote/dovecotelaw15.EntriesAgain", spec := "entriesAgain", inPlace := ["internal/reflectlite.ValueOf", "(internal/reflectlite.Value).Type", "(internal/reflectlite.Value).IsNil", "internal/reflectlite.TypeOf", "(internal/reflectlite.Value).Elem", "(internal/reflectlite.Value).Set"], unfollowed := true, recurses := true, named := ["errors.errorType"], apart := false, laid := [("errors.errorType", laid_errors_errorType)] }
def EntriesAgainSaid : Prop := entriesAgainRow.holds Tryd.pinned (OpenSpec.ofChange entriesAgainSpec)

/-- ITS FALSE NEIGHBOUR: 'it returns false'. Refute it at one input. -/
def entriesAgainWrong : ChangeSpec := { name := "entriesAgain", fn := fun _ => fun
  | [d] => { results := [.lit (.bool false)], args := [d] }
  | _ => none }
def EntriesAgainWrongFalsely : Prop := entriesAgainRow.holds Tryd.pinned (OpenSpec.ofChange entriesAgainWrong)

/-- 'dovecotelaw15.EntriesExact': WHATEVER THE INPUT: true; the input reads as it did. -/
def entriesExactSpec : ChangeSpec := { name := "entriesExact", fn := fun _ => fun
  | [d] => { results := [.lit (.bool true)], args := [d] }
  | _ => none }
def entriesExactRow : OpenClaim := { program := "ytdkcihifmmppiaadoor", sum := "20ae91780de175dbad11a859a9f4b55e2aa21d4b8b54ac6819efc1b585f1b12e", func := "dovecote/dovecotelaw15.EntriesExact", spec := "entriesExact", inPlace := ["internal/reflectlite.ValueOf", "(internal/reflectlite.Value).Type", "(internal/reflectlite.Value).IsNil", "internal/reflectlite.TypeOf", "(internal/reflectlite.Value).Elem", "(internal/reflectlite.Value).Set"], unfollowed := true, recurses := true, named := ["errors.errorType"], apart := false, laid := [("errors.errorType", laid_errors_errorType)] }
def EntriesExactSaid : Prop := entriesExactRow.holds Tryd.pinned (OpenSpec.ofChange entriesExactSpec)

/-- ITS FALSE NEIGHBOUR: 'it returns false'. Refute it at one input. -/
def entriesExactWrong : ChangeSpec := { name := "entriesExact", fn := fun _ => fun
  | [d] => { results := [.lit (.bool false)], args := [d] }
  | _ => none }
def EntriesExactWrongFalsely : Prop := entriesExactRow.holds Tryd.pinned (OpenSpec.ofChange entriesExactWrong)

/- THE SECOND FORM. 'bulk': how many values and letters a reading holds, each counted each time it is reached (what is shared counts as often as it is met; a slice's spare places count too). A statement '..UptoSaid' is the law's where the arguments, and the package variables that the reading takes, are together of bulk at most 1048576: NARROWER than '..Said'. Prove '..Said' where nothing that the law and all that it calls make is longer than what came in: it says more and counts as full. Else prove '..UptoSaid'. A law counts once. -/
mutual
def uptoBulk {H : Type} : DataW H → Nat
  | .lit (.string bytes) => bytes.length + 1
  | .lit _ => 1
  | .nil => 1
  | .ptr d => uptoBulk d + 1
  | .slice elems spare => uptoBulkAll elems + uptoBulkAll spare + 1
  | .agg parts => uptoBulkAll parts + 1
  | .iface _ d => uptoBulk d + 1
  | .map entries => uptoBulkEntries entries + 1
  | .held _ => 1
def uptoBulkAll {H : Type} : List (DataW H) → Nat
  | [] => 0
  | d :: r => uptoBulk d + uptoBulkAll r
def uptoBulkEntries {H : Type} : List (Lit × DataW H) → Nat
  | [] => 0
  | x :: r => uptoBulkEntry x + uptoBulkEntries r
def uptoBulkEntry {H : Type} : Lit × DataW H → Nat
  | (.string bytes, d) => bytes.length + uptoBulk d + 1
  | (_, d) => uptoBulk d + 1
 end
def uptoSmall : (H : Type) → List (DataW H) → Bool := fun _ ds => decide (uptoBulkAll ds ≤ 1048576)
def OpenSpec.upto (s : _root_.Go.ChangeSpec) : _root_.Go.OpenSpec := { _root_.Go.OpenSpec.ofChange s with cond := some uptoSmall }

/-- 'dovecotelaw15.EntriesAppends', WHERE WHAT IT READS IS OF BULK AT MOST 1048576: true; the input reads as it did. -/
def entriesAppendsUptoRow : OpenClaim := { program := "ytdkcihifmmppiaadoor", sum := "20ae91780de175dbad11a859a9f4b55e2aa21d4b8b54ac6819efc1b585f1b12e", func := "dovecote/dovecotelaw15.EntriesAppends", spec := "entriesAppends", inPlace := ["internal/reflectlite.ValueOf", "(internal/reflectlite.Value).Type", "(internal/reflectlite.Value).IsNil", "internal/reflectlite.TypeOf", "(internal/reflectlite.Value).Elem", "(internal/reflectlite.Value).Set"], unfollowed := true, recurses := true, named := ["errors.errorType"], apart := false, laid := [("errors.errorType", laid_errors_errorType)], narrowed := true }
def EntriesAppendsUptoSaid : Prop := entriesAppendsUptoRow.holds Tryd.pinned (OpenSpec.upto entriesAppendsSpec)

/-- 'dovecotelaw15.EntriesLast', WHERE WHAT IT READS IS OF BULK AT MOST 1048576: true; the input reads as it did. -/
def entriesLastUptoRow : OpenClaim := { program := "ytdkcihifmmppiaadoor", sum := "20ae91780de175dbad11a859a9f4b55e2aa21d4b8b54ac6819efc1b585f1b12e", func := "dovecote/dovecotelaw15.EntriesLast", spec := "entriesLast", inPlace := ["internal/reflectlite.ValueOf", "(internal/reflectlite.Value).Type", "(internal/reflectlite.Value).IsNil", "internal/reflectlite.TypeOf", "(internal/reflectlite.Value).Elem", "(internal/reflectlite.Value).Set"], unfollowed := true, recurses := true, named := ["errors.errorType"], apart := false, laid := [("errors.errorType", laid_errors_errorType)], narrowed := true }
def EntriesLastUptoSaid : Prop := entriesLastUptoRow.holds Tryd.pinned (OpenSpec.upto entriesLastSpec)

/-- 'dovecotelaw15.EntriesCuts', WHERE WHAT IT READS IS OF BULK AT MOST 1048576: true; the input reads as it did. -/
def entriesCutsUptoRow : OpenClaim := { program := "ytdkcihifmmppiaadoor", sum := "20ae91780de175dbad11a859a9f4b55e2aa21d4b8b54ac6819efc1b585f1b12e", func := "dovecote/dovecotelaw15.EntriesCuts", spec := "entriesCuts", inPlace := ["internal/reflectlite.ValueOf", "(internal/reflectlite.Value).Type", "(internal/reflectlite.Value).IsNil", "internal/reflectlite.TypeOf", "(internal/reflectlite.Value).Elem", "(internal/reflectlite.Value).Set"], unfollowed := true, recurses := true, named := ["errors.errorType"], apart := false, laid := [("errors.errorType", laid_errors_errorType)], narrowed := true }
def EntriesCutsUptoSaid : Prop := entriesCutsUptoRow.holds Tryd.pinned (OpenSpec.upto entriesCutsSpec)

/-- 'dovecotelaw15.EntriesSlices', WHERE WHAT IT READS IS OF BULK AT MOST 1048576: true; the input reads as it did. -/
def entriesSlicesUptoRow : OpenClaim := { program := "ytdkcihifmmppiaadoor", sum := "20ae91780de175dbad11a859a9f4b55e2aa21d4b8b54ac6819efc1b585f1b12e", func := "dovecote/dovecotelaw15.EntriesSlices", spec := "entriesSlices", inPlace := ["internal/reflectlite.ValueOf", "(internal/reflectlite.Value).Type", "(internal/reflectlite.Value).IsNil", "internal/reflectlite.TypeOf", "(internal/reflectlite.Value).Elem", "(internal/reflectlite.Value).Set"], unfollowed := true, recurses := true, named := ["errors.errorType"], apart := false, laid := [("errors.errorType", laid_errors_errorType)], narrowed := true }
def EntriesSlicesUptoSaid : Prop := entriesSlicesUptoRow.holds Tryd.pinned (OpenSpec.upto entriesSlicesSpec)

/-- 'dovecotelaw15.EntriesNewer', WHERE WHAT IT READS IS OF BULK AT MOST 1048576: true; the input reads as it did. -/
def entriesNewerUptoRow : OpenClaim := { program := "ytdkcihifmmppiaadoor", sum := "20ae91780de175dbad11a859a9f4b55e2aa21d4b8b54ac6819efc1b585f1b12e", func := "dovecote/dovecotelaw15.EntriesNewer", spec := "entriesNewer", inPlace := ["internal/reflectlite.ValueOf", "(internal/reflectlite.Value).Type", "(internal/reflectlite.Value).IsNil", "internal/reflectlite.TypeOf", "(internal/reflectlite.Value).Elem", "(internal/reflectlite.Value).Set"], unfollowed := true, recurses := true, named := ["errors.errorType"], apart := false, laid := [("errors.errorType", laid_errors_errorType)], narrowed := true }
def EntriesNewerUptoSaid : Prop := entriesNewerUptoRow.holds Tryd.pinned (OpenSpec.upto entriesNewerSpec)

/-- 'dovecotelaw15.EntriesTerms', WHERE WHAT IT READS IS OF BULK AT MOST 1048576: true; the input reads as it did. -/
def entriesTermsUptoRow : OpenClaim := { program := "ytdkcihifmmppiaadoor", sum := "20ae91780de175dbad11a859a9f4b55e2aa21d4b8b54ac6819efc1b585f1b12e", func := "dovecote/dovecotelaw15.EntriesTerms", spec := "entriesTerms", inPlace := ["internal/reflectlite.ValueOf", "(internal/reflectlite.Value).Type", "(internal/reflectlite.Value).IsNil", "internal/reflectlite.TypeOf", "(internal/reflectlite.Value).Elem", "(internal/reflectlite.Value).Set"], unfollowed := true, recurses := true, named := ["errors.errorType"], apart := false, laid := [("errors.errorType", laid_errors_errorType)], narrowed := true }
def EntriesTermsUptoSaid : Prop := entriesTermsUptoRow.holds Tryd.pinned (OpenSpec.upto entriesTermsSpec)

/-- 'dovecotelaw15.EntriesCompacts', WHERE WHAT IT READS IS OF BULK AT MOST 1048576: true; the input reads as it did. -/
def entriesCompactsUptoRow : OpenClaim := { program := "ytdkcihifmmppiaadoor", sum := "20ae91780de175dbad11a859a9f4b55e2aa21d4b8b54ac6819efc1b585f1b12e", func := "dovecote/dovecotelaw15.EntriesCompacts", spec := "entriesCompacts", inPlace := ["internal/reflectlite.ValueOf", "(internal/reflectlite.Value).Type", "(internal/reflectlite.Value).IsNil", "internal/reflectlite.TypeOf", "(internal/reflectlite.Value).Elem", "(internal/reflectlite.Value).Set"], unfollowed := true, recurses := true, named := ["errors.errorType"], apart := false, laid := [("errors.errorType", laid_errors_errorType)], narrowed := true }
def EntriesCompactsUptoSaid : Prop := entriesCompactsUptoRow.holds Tryd.pinned (OpenSpec.upto entriesCompactsSpec)

/-- 'dovecotelaw15.EntriesMerge', WHERE WHAT IT READS IS OF BULK AT MOST 1048576: true; the input reads as it did. -/
def entriesMergeUptoRow : OpenClaim := { program := "ytdkcihifmmppiaadoor", sum := "20ae91780de175dbad11a859a9f4b55e2aa21d4b8b54ac6819efc1b585f1b12e", func := "dovecote/dovecotelaw15.EntriesMerge", spec := "entriesMerge", inPlace := ["internal/reflectlite.ValueOf", "(internal/reflectlite.Value).Type", "(internal/reflectlite.Value).IsNil", "internal/reflectlite.TypeOf", "(internal/reflectlite.Value).Elem", "(internal/reflectlite.Value).Set"], unfollowed := true, recurses := true, named := ["errors.errorType"], apart := false, laid := [("errors.errorType", laid_errors_errorType)], narrowed := true }
def EntriesMergeUptoSaid : Prop := entriesMergeUptoRow.holds Tryd.pinned (OpenSpec.upto entriesMergeSpec)

/-- 'dovecotelaw15.EntriesAgain', WHERE WHAT IT READS IS OF BULK AT MOST 1048576: true; the input reads as it did. -/
def entriesAgainUptoRow : OpenClaim := { program := "ytdkcihifmmppiaadoor", sum := "20ae91780de175dbad11a859a9f4b55e2aa21d4b8b54ac6819efc1b585f1b12e", func := "dovecote/dovecotelaw15.EntriesAgain", spec := "entriesAgain", inPlace := ["internal/reflectlite.ValueOf", "(internal/reflectlite.Value).Type", "(internal/reflectlite.Value).IsNil", "internal/reflectlite.TypeOf", "(internal/reflectlite.Value).Elem", "(internal/reflectlite.Value).Set"], unfollowed := true, recurses := true, named := ["errors.errorType"], apart := false, laid := [("errors.errorType", laid_errors_errorType)], narrowed := true }
def EntriesAgainUptoSaid : Prop := entriesAgainUptoRow.holds Tryd.pinned (OpenSpec.upto entriesAgainSpec)

/-- 'dovecotelaw15.EntriesExact', WHERE WHAT IT READS IS OF BULK AT MOST 1048576: true; the input reads as it did. -/
def entriesExactUptoRow : OpenClaim := { program := "ytdkcihifmmppiaadoor", sum := "20ae91780de175dbad11a859a9f4b55e2aa21d4b8b54ac6819efc1b585f1b12e", func := "dovecote/dovecotelaw15.EntriesExact", spec := "entriesExact", inPlace := ["internal/reflectlite.ValueOf", "(internal/reflectlite.Value).Type", "(internal/reflectlite.Value).IsNil", "internal/reflectlite.TypeOf", "(internal/reflectlite.Value).Elem", "(internal/reflectlite.Value).Set"], unfollowed := true, recurses := true, named := ["errors.errorType"], apart := false, laid := [("errors.errorType", laid_errors_errorType)], narrowed := true }
def EntriesExactUptoSaid : Prop := entriesExactUptoRow.holds Tryd.pinned (OpenSpec.upto entriesExactSpec)

end Rows
end Go.Proofs.YtdkcihifmmppiaaDoor
