/-
  DERIVED. GIVEN WITH THE SEED: THE CARDS: each row of YtdkcihifmmppiaaDoorRows.lean that lists a variable, with what it lists TIED to the program's text (the seventh form; the later family's looks); each row that meets fmt, with fmt's text TOLD by the authors' own Lean function (tested against real Go, not proved from fmt's source: count such statements apart). THE CARD IS WHAT COUNTS. Prove the row's statement (the work); the ties are given (YtdkcihifmmppiaaDoorTie.lean); close each card by the builder's one call (the guide's Derived/Test/ToyasCard.lean, 'card_holds'). Laid BY PROGRAM, IN A SANDBOX (cutbox-door.mjs). By AI agents, Wed Nov 11 2026. No macro, syntax, notation, axiom, sorry.
-/
import Derived.Test.YtdkcihifmmppiaaDoorRows
import GoSem.ClaimSeven
namespace Go.Proofs.YtdkcihifmmppiaaDoor
namespace Rows

/-- THE TIED CARD OF 'dovecotelaw15.EntriesAppends'. -/
def entriesAppendsCard : Claim7 := { stood := { row := entriesAppendsRow, standIns := [], harness := (true, "576d483bd1a07fbae229a136ee5a16949abcb87f46d255348f740031fdd53504"), looks := true }, kinds := [], alts := [], laidByText := true, laidKinds := [.handle], laidTests := true, laidLooks := .later }
def EntriesAppendsCardSaid : Prop := Claim7.holds Tryd.pinned (.plain (OpenSpec.ofChange entriesAppendsSpec)) entriesAppendsCard

/-- THE TIED CARD OF 'dovecotelaw15.EntriesLast'. -/
def entriesLastCard : Claim7 := { stood := { row := entriesLastRow, standIns := [], harness := (true, "576d483bd1a07fbae229a136ee5a16949abcb87f46d255348f740031fdd53504"), looks := true }, kinds := [], alts := [], laidByText := true, laidKinds := [.handle], laidTests := true, laidLooks := .later }
def EntriesLastCardSaid : Prop := Claim7.holds Tryd.pinned (.plain (OpenSpec.ofChange entriesLastSpec)) entriesLastCard

/-- THE TIED CARD OF 'dovecotelaw15.EntriesCuts'. -/
def entriesCutsCard : Claim7 := { stood := { row := entriesCutsRow, standIns := [], harness := (true, "576d483bd1a07fbae229a136ee5a16949abcb87f46d255348f740031fdd53504"), looks := true }, kinds := [], alts := [], laidByText := true, laidKinds := [.handle], laidTests := true, laidLooks := .later }
def EntriesCutsCardSaid : Prop := Claim7.holds Tryd.pinned (.plain (OpenSpec.ofChange entriesCutsSpec)) entriesCutsCard

/-- THE TIED CARD OF 'dovecotelaw15.EntriesSlices'. -/
def entriesSlicesCard : Claim7 := { stood := { row := entriesSlicesRow, standIns := [], harness := (true, "576d483bd1a07fbae229a136ee5a16949abcb87f46d255348f740031fdd53504"), looks := true }, kinds := [], alts := [], laidByText := true, laidKinds := [.handle], laidTests := true, laidLooks := .later }
def EntriesSlicesCardSaid : Prop := Claim7.holds Tryd.pinned (.plain (OpenSpec.ofChange entriesSlicesSpec)) entriesSlicesCard

/-- THE TIED CARD OF 'dovecotelaw15.EntriesNewer'. -/
def entriesNewerCard : Claim7 := { stood := { row := entriesNewerRow, standIns := [], harness := (true, "576d483bd1a07fbae229a136ee5a16949abcb87f46d255348f740031fdd53504"), looks := true }, kinds := [], alts := [], laidByText := true, laidKinds := [.handle], laidTests := true, laidLooks := .later }
def EntriesNewerCardSaid : Prop := Claim7.holds Tryd.pinned (.plain (OpenSpec.ofChange entriesNewerSpec)) entriesNewerCard

/-- THE TIED CARD OF 'dovecotelaw15.EntriesTerms'. -/
def entriesTermsCard : Claim7 := { stood := { row := entriesTermsRow, standIns := [], harness := (true, "576d483bd1a07fbae229a136ee5a16949abcb87f46d255348f740031fdd53504"), looks := true }, kinds := [], alts := [], laidByText := true, laidKinds := [.handle], laidTests := true, laidLooks := .later }
def EntriesTermsCardSaid : Prop := Claim7.holds Tryd.pinned (.plain (OpenSpec.ofChange entriesTermsSpec)) entriesTermsCard

/-- THE TIED CARD OF 'dovecotelaw15.EntriesCompacts'. -/
def entriesCompactsCard : Claim7 := { stood := { row := entriesCompactsRow, standIns := [], harness := (true, "576d483bd1a07fbae229a136ee5a16949abcb87f46d255348f740031fdd53504"), looks := true }, kinds := [], alts := [], laidByText := true, laidKinds := [.handle], laidTests := true, laidLooks := .later }
def EntriesCompactsCardSaid : Prop := Claim7.holds Tryd.pinned (.plain (OpenSpec.ofChange entriesCompactsSpec)) entriesCompactsCard

/-- THE TIED CARD OF 'dovecotelaw15.EntriesMerge'. -/
def entriesMergeCard : Claim7 := { stood := { row := entriesMergeRow, standIns := [], harness := (true, "576d483bd1a07fbae229a136ee5a16949abcb87f46d255348f740031fdd53504"), looks := true }, kinds := [], alts := [], laidByText := true, laidKinds := [.handle], laidTests := true, laidLooks := .later }
def EntriesMergeCardSaid : Prop := Claim7.holds Tryd.pinned (.plain (OpenSpec.ofChange entriesMergeSpec)) entriesMergeCard

/-- THE TIED CARD OF 'dovecotelaw15.EntriesAgain'. -/
def entriesAgainCard : Claim7 := { stood := { row := entriesAgainRow, standIns := [], harness := (true, "576d483bd1a07fbae229a136ee5a16949abcb87f46d255348f740031fdd53504"), looks := true }, kinds := [], alts := [], laidByText := true, laidKinds := [.handle], laidTests := true, laidLooks := .later }
def EntriesAgainCardSaid : Prop := Claim7.holds Tryd.pinned (.plain (OpenSpec.ofChange entriesAgainSpec)) entriesAgainCard

/-- THE TIED CARD OF 'dovecotelaw15.EntriesExact'. -/
def entriesExactCard : Claim7 := { stood := { row := entriesExactRow, standIns := [], harness := (true, "576d483bd1a07fbae229a136ee5a16949abcb87f46d255348f740031fdd53504"), looks := true }, kinds := [], alts := [], laidByText := true, laidKinds := [.handle], laidTests := true, laidLooks := .later }
def EntriesExactCardSaid : Prop := Claim7.holds Tryd.pinned (.plain (OpenSpec.ofChange entriesExactSpec)) entriesExactCard

/-- THE SECOND FORM's CARD OF 'dovecotelaw15.EntriesAppends'. -/
def entriesAppendsUptoCard : Claim7 := { stood := { row := entriesAppendsUptoRow, standIns := [], harness := (true, "576d483bd1a07fbae229a136ee5a16949abcb87f46d255348f740031fdd53504"), looks := true }, kinds := [], alts := [], laidByText := true, laidKinds := [.handle], laidTests := true, laidLooks := .later }
def EntriesAppendsUptoCardSaid : Prop := Claim7.holds Tryd.pinned (.plain (OpenSpec.upto entriesAppendsSpec)) entriesAppendsUptoCard

/-- THE SECOND FORM's CARD OF 'dovecotelaw15.EntriesLast'. -/
def entriesLastUptoCard : Claim7 := { stood := { row := entriesLastUptoRow, standIns := [], harness := (true, "576d483bd1a07fbae229a136ee5a16949abcb87f46d255348f740031fdd53504"), looks := true }, kinds := [], alts := [], laidByText := true, laidKinds := [.handle], laidTests := true, laidLooks := .later }
def EntriesLastUptoCardSaid : Prop := Claim7.holds Tryd.pinned (.plain (OpenSpec.upto entriesLastSpec)) entriesLastUptoCard

/-- THE SECOND FORM's CARD OF 'dovecotelaw15.EntriesCuts'. -/
def entriesCutsUptoCard : Claim7 := { stood := { row := entriesCutsUptoRow, standIns := [], harness := (true, "576d483bd1a07fbae229a136ee5a16949abcb87f46d255348f740031fdd53504"), looks := true }, kinds := [], alts := [], laidByText := true, laidKinds := [.handle], laidTests := true, laidLooks := .later }
def EntriesCutsUptoCardSaid : Prop := Claim7.holds Tryd.pinned (.plain (OpenSpec.upto entriesCutsSpec)) entriesCutsUptoCard

/-- THE SECOND FORM's CARD OF 'dovecotelaw15.EntriesSlices'. -/
def entriesSlicesUptoCard : Claim7 := { stood := { row := entriesSlicesUptoRow, standIns := [], harness := (true, "576d483bd1a07fbae229a136ee5a16949abcb87f46d255348f740031fdd53504"), looks := true }, kinds := [], alts := [], laidByText := true, laidKinds := [.handle], laidTests := true, laidLooks := .later }
def EntriesSlicesUptoCardSaid : Prop := Claim7.holds Tryd.pinned (.plain (OpenSpec.upto entriesSlicesSpec)) entriesSlicesUptoCard

/-- THE SECOND FORM's CARD OF 'dovecotelaw15.EntriesNewer'. -/
def entriesNewerUptoCard : Claim7 := { stood := { row := entriesNewerUptoRow, standIns := [], harness := (true, "576d483bd1a07fbae229a136ee5a16949abcb87f46d255348f740031fdd53504"), looks := true }, kinds := [], alts := [], laidByText := true, laidKinds := [.handle], laidTests := true, laidLooks := .later }
def EntriesNewerUptoCardSaid : Prop := Claim7.holds Tryd.pinned (.plain (OpenSpec.upto entriesNewerSpec)) entriesNewerUptoCard

/-- THE SECOND FORM's CARD OF 'dovecotelaw15.EntriesTerms'. -/
def entriesTermsUptoCard : Claim7 := { stood := { row := entriesTermsUptoRow, standIns := [], harness := (true, "576d483bd1a07fbae229a136ee5a16949abcb87f46d255348f740031fdd53504"), looks := true }, kinds := [], alts := [], laidByText := true, laidKinds := [.handle], laidTests := true, laidLooks := .later }
def EntriesTermsUptoCardSaid : Prop := Claim7.holds Tryd.pinned (.plain (OpenSpec.upto entriesTermsSpec)) entriesTermsUptoCard

/-- THE SECOND FORM's CARD OF 'dovecotelaw15.EntriesCompacts'. -/
def entriesCompactsUptoCard : Claim7 := { stood := { row := entriesCompactsUptoRow, standIns := [], harness := (true, "576d483bd1a07fbae229a136ee5a16949abcb87f46d255348f740031fdd53504"), looks := true }, kinds := [], alts := [], laidByText := true, laidKinds := [.handle], laidTests := true, laidLooks := .later }
def EntriesCompactsUptoCardSaid : Prop := Claim7.holds Tryd.pinned (.plain (OpenSpec.upto entriesCompactsSpec)) entriesCompactsUptoCard

/-- THE SECOND FORM's CARD OF 'dovecotelaw15.EntriesMerge'. -/
def entriesMergeUptoCard : Claim7 := { stood := { row := entriesMergeUptoRow, standIns := [], harness := (true, "576d483bd1a07fbae229a136ee5a16949abcb87f46d255348f740031fdd53504"), looks := true }, kinds := [], alts := [], laidByText := true, laidKinds := [.handle], laidTests := true, laidLooks := .later }
def EntriesMergeUptoCardSaid : Prop := Claim7.holds Tryd.pinned (.plain (OpenSpec.upto entriesMergeSpec)) entriesMergeUptoCard

/-- THE SECOND FORM's CARD OF 'dovecotelaw15.EntriesAgain'. -/
def entriesAgainUptoCard : Claim7 := { stood := { row := entriesAgainUptoRow, standIns := [], harness := (true, "576d483bd1a07fbae229a136ee5a16949abcb87f46d255348f740031fdd53504"), looks := true }, kinds := [], alts := [], laidByText := true, laidKinds := [.handle], laidTests := true, laidLooks := .later }
def EntriesAgainUptoCardSaid : Prop := Claim7.holds Tryd.pinned (.plain (OpenSpec.upto entriesAgainSpec)) entriesAgainUptoCard

/-- THE SECOND FORM's CARD OF 'dovecotelaw15.EntriesExact'. -/
def entriesExactUptoCard : Claim7 := { stood := { row := entriesExactUptoRow, standIns := [], harness := (true, "576d483bd1a07fbae229a136ee5a16949abcb87f46d255348f740031fdd53504"), looks := true }, kinds := [], alts := [], laidByText := true, laidKinds := [.handle], laidTests := true, laidLooks := .later }
def EntriesExactUptoCardSaid : Prop := Claim7.holds Tryd.pinned (.plain (OpenSpec.upto entriesExactSpec)) entriesExactUptoCard
end Rows
end Go.Proofs.YtdkcihifmmppiaaDoor
