/-
  DERIVED. GIVEN WITH THE SEED: THE CARDS: each row of YtlidjmchohkhcaaDoorRows.lean that lists a variable, with what it lists TIED to the program's text (the seventh form; the later family's looks); each row that meets fmt, with fmt's text TOLD by the authors' own Lean function (tested against real Go, not proved from fmt's source: count such statements apart). THE CARD IS WHAT COUNTS. Prove the row's statement (the work); the ties are given (YtlidjmchohkhcaaDoorTie.lean); close each card by the builder's one call (the guide's Derived/Test/ToyasCard.lean, 'card_holds'). Laid BY PROGRAM, IN A SANDBOX (cutbox-door.mjs). By AI agents, Wed Nov 11 2026. No macro, syntax, notation, axiom, sorry.
-/
import Derived.Test.YtlidjmchohkhcaaDoorRows
import GoSem.ClaimSeven
namespace Go.Proofs.YtlidjmchohkhcaaDoor
namespace Rows

/-- THE TIED CARD OF 'dovecotelaw17.RpcAny'. -/
def rpcAnyCard : Claim7 := { stood := { row := rpcAnyRow, standIns := [], harness := (true, "3256412663a34b562ca02641d8479b13ff7750a5346b6b0e4e0f3b7d7fd1f248"), looks := true }, kinds := [], alts := [], laidByText := true, laidKinds := [.handle], laidTests := true, laidLooks := .later }
def RpcAnyCardSaid : Prop := Claim7.holds Tryd.pinned (.plain (OpenSpec.ofChange rpcAnySpec)) rpcAnyCard

/-- THE SECOND FORM's CARD OF 'dovecotelaw17.RpcAny'. -/
def rpcAnyUptoCard : Claim7 := { stood := { row := rpcAnyUptoRow, standIns := [], harness := (true, "3256412663a34b562ca02641d8479b13ff7750a5346b6b0e4e0f3b7d7fd1f248"), looks := true }, kinds := [], alts := [], laidByText := true, laidKinds := [.handle], laidTests := true, laidLooks := .later }
def RpcAnyUptoCardSaid : Prop := Claim7.holds Tryd.pinned (.plain (OpenSpec.upto rpcAnySpec)) rpcAnyUptoCard
end Rows
end Go.Proofs.YtlidjmchohkhcaaDoor
