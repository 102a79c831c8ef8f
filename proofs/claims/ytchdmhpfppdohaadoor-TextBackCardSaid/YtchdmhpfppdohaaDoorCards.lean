/-
  DERIVED. GIVEN WITH THE SEED: THE CARDS: each row of YtchdmhpfppdohaaDoorRows.lean that lists a variable, with what it lists TIED to the program's text (the seventh form; the later family's looks); each row that meets fmt, with fmt's text TOLD by the authors' own Lean function (tested against real Go, not proved from fmt's source: count such statements apart). THE CARD IS WHAT COUNTS. Prove the row's statement (the work); the ties are given (YtchdmhpfppdohaaDoorTie.lean); close each card by the builder's one call (the guide's Derived/Test/ToyasCard.lean, 'card_holds'). Laid BY PROGRAM, IN A SANDBOX (cutbox-door.mjs). By AI agents, Wed Nov 11 2026. No macro, syntax, notation, axiom, sorry.
-/
import Derived.Test.YtchdmhpfppdohaaDoorRows
import GoSem.ClaimSeven
namespace Go.Proofs.YtchdmhpfppdohaaDoor
namespace Rows

/-- THE TIED CARD OF 'dovecotelaw1.VarintPuts'. -/
def varintPutsCard : Claim7 := { stood := { row := varintPutsRow, standIns := [], harness := (true, "1e86017ab544bf8de66694ea7022f5785a504905a8e1e6739537e5332d938449"), looks := true }, kinds := [], alts := [], laidByText := true, laidKinds := [.handle], laidTests := true, laidLooks := .later }
def VarintPutsCardSaid : Prop := Claim7.holds Tryd.pinned (.plain (OpenSpec.ofChange varintPutsSpec)) varintPutsCard

/-- THE TIED CARD OF 'dovecotelaw1.VarintGets'. -/
def varintGetsCard : Claim7 := { stood := { row := varintGetsRow, standIns := [], harness := (true, "1e86017ab544bf8de66694ea7022f5785a504905a8e1e6739537e5332d938449"), looks := true }, kinds := [], alts := [], laidByText := true, laidKinds := [.handle], laidTests := true, laidLooks := .later }
def VarintGetsCardSaid : Prop := Claim7.holds Tryd.pinned (.plain (OpenSpec.ofChange varintGetsSpec)) varintGetsCard

/-- THE TIED CARD OF 'dovecotelaw1.VarintBack'. -/
def varintBackCard : Claim7 := { stood := { row := varintBackRow, standIns := [], harness := (true, "1e86017ab544bf8de66694ea7022f5785a504905a8e1e6739537e5332d938449"), looks := true }, kinds := [], alts := [], laidByText := true, laidKinds := [.handle], laidTests := true, laidLooks := .later }
def VarintBackCardSaid : Prop := Claim7.holds Tryd.pinned (.plain (OpenSpec.ofChange varintBackSpec)) varintBackCard

/-- THE TIED CARD OF 'dovecotelaw2.TextPuts'. -/
def textPutsCard : Claim7 := { stood := { row := textPutsRow, standIns := [], harness := (true, "1e86017ab544bf8de66694ea7022f5785a504905a8e1e6739537e5332d938449"), looks := true }, kinds := [], alts := [], laidByText := true, laidKinds := [.data, .handle, .pinned], laidTests := true, laidLooks := .later }
def TextPutsCardSaid : Prop := Claim7.holds Tryd.pinned (.plain (OpenSpec.ofChange textPutsSpec)) textPutsCard

/-- THE TIED CARD OF 'dovecotelaw2.TextGets'. -/
def textGetsCard : Claim7 := { stood := { row := textGetsRow, standIns := [], harness := (true, "1e86017ab544bf8de66694ea7022f5785a504905a8e1e6739537e5332d938449"), looks := true }, kinds := [], alts := [], laidByText := true, laidKinds := [.data, .handle, .pinned], laidTests := true, laidLooks := .later }
def TextGetsCardSaid : Prop := Claim7.holds Tryd.pinned (.plain (OpenSpec.ofChange textGetsSpec)) textGetsCard

/-- THE TIED CARD OF 'dovecotelaw2.TextBack'. -/
def textBackCard : Claim7 := { stood := { row := textBackRow, standIns := [], harness := (true, "1e86017ab544bf8de66694ea7022f5785a504905a8e1e6739537e5332d938449"), looks := true }, kinds := [], alts := [], laidByText := true, laidKinds := [.data, .handle, .pinned], laidTests := true, laidLooks := .later }
def TextBackCardSaid : Prop := Claim7.holds Tryd.pinned (.plain (OpenSpec.ofChange textBackSpec)) textBackCard

/-- THE SECOND FORM's CARD OF 'dovecotelaw1.VarintPuts'. -/
def varintPutsUptoCard : Claim7 := { stood := { row := varintPutsUptoRow, standIns := [], harness := (true, "1e86017ab544bf8de66694ea7022f5785a504905a8e1e6739537e5332d938449"), looks := true }, kinds := [], alts := [], laidByText := true, laidKinds := [.handle], laidTests := true, laidLooks := .later }
def VarintPutsUptoCardSaid : Prop := Claim7.holds Tryd.pinned (.plain (OpenSpec.upto varintPutsSpec)) varintPutsUptoCard

/-- THE SECOND FORM's CARD OF 'dovecotelaw1.VarintGets'. -/
def varintGetsUptoCard : Claim7 := { stood := { row := varintGetsUptoRow, standIns := [], harness := (true, "1e86017ab544bf8de66694ea7022f5785a504905a8e1e6739537e5332d938449"), looks := true }, kinds := [], alts := [], laidByText := true, laidKinds := [.handle], laidTests := true, laidLooks := .later }
def VarintGetsUptoCardSaid : Prop := Claim7.holds Tryd.pinned (.plain (OpenSpec.upto varintGetsSpec)) varintGetsUptoCard

/-- THE SECOND FORM's CARD OF 'dovecotelaw1.VarintBack'. -/
def varintBackUptoCard : Claim7 := { stood := { row := varintBackUptoRow, standIns := [], harness := (true, "1e86017ab544bf8de66694ea7022f5785a504905a8e1e6739537e5332d938449"), looks := true }, kinds := [], alts := [], laidByText := true, laidKinds := [.handle], laidTests := true, laidLooks := .later }
def VarintBackUptoCardSaid : Prop := Claim7.holds Tryd.pinned (.plain (OpenSpec.upto varintBackSpec)) varintBackUptoCard

/-- THE SECOND FORM's CARD OF 'dovecotelaw2.TextPuts'. -/
def textPutsUptoCard : Claim7 := { stood := { row := textPutsUptoRow, standIns := [], harness := (true, "1e86017ab544bf8de66694ea7022f5785a504905a8e1e6739537e5332d938449"), looks := true }, kinds := [], alts := [], laidByText := true, laidKinds := [.data, .handle, .pinned], laidTests := true, laidLooks := .later }
def TextPutsUptoCardSaid : Prop := Claim7.holds Tryd.pinned (.plain (OpenSpec.upto textPutsSpec)) textPutsUptoCard

/-- THE SECOND FORM's CARD OF 'dovecotelaw2.TextGets'. -/
def textGetsUptoCard : Claim7 := { stood := { row := textGetsUptoRow, standIns := [], harness := (true, "1e86017ab544bf8de66694ea7022f5785a504905a8e1e6739537e5332d938449"), looks := true }, kinds := [], alts := [], laidByText := true, laidKinds := [.data, .handle, .pinned], laidTests := true, laidLooks := .later }
def TextGetsUptoCardSaid : Prop := Claim7.holds Tryd.pinned (.plain (OpenSpec.upto textGetsSpec)) textGetsUptoCard

/-- THE SECOND FORM's CARD OF 'dovecotelaw2.TextBack'. -/
def textBackUptoCard : Claim7 := { stood := { row := textBackUptoRow, standIns := [], harness := (true, "1e86017ab544bf8de66694ea7022f5785a504905a8e1e6739537e5332d938449"), looks := true }, kinds := [], alts := [], laidByText := true, laidKinds := [.data, .handle, .pinned], laidTests := true, laidLooks := .later }
def TextBackUptoCardSaid : Prop := Claim7.holds Tryd.pinned (.plain (OpenSpec.upto textBackSpec)) textBackUptoCard
end Rows
end Go.Proofs.YtchdmhpfppdohaaDoor
