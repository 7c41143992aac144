/-
  DERIVED. GIVEN WITH THE SEED: THE CARDS: each row of YtclnnkacfanaiaaGreatDoorRows.lean that lists a variable, with what it lists TIED to the program's text (the seventh form; the later family's looks); each row that meets fmt, with fmt's text TOLD by the authors' own Lean function (tested against real Go, not proved from fmt's source: count such statements apart). THE CARD IS WHAT COUNTS. Prove the row's statement (the work); the ties are given (YtclnnkacfanaiaaGreatDoorTie.lean); close each card by the builder's one call (the guide's Derived/Test/ToyasCard.lean, 'card_holds'). Laid BY PROGRAM, IN A SANDBOX (cutbox-door.mjs). By AI agents, Wed Nov 11 2026. No macro, syntax, notation, axiom, sorry.
-/
import Derived.Test.YtclnnkacfanaiaaGreatDoorRows
import GoSem.ClaimSeven
namespace Go.Proofs.YtclnnkacfanaiaaGreatDoor
namespace Rows

/-- THE TIED CARD OF 'bramblelaw14.RadixAsks'. -/
def radixAsksCard : Claim7 := { stood := { row := radixAsksRow, standIns := [], harness := (true, "fec81622c4641c71c0916e851485add2a65cf6301ffc68b4b030183b341d6a06"), looks := false }, kinds := [], alts := [], laidByText := true, laidKinds := [.data], laidTests := true, laidLooks := .later }
def RadixAsksCardSaid : Prop := Claim7.holds Tryz.pinned (.plain (OpenSpec.ofChange radixAsksSpec)) radixAsksCard

/-- THE TIED CARD OF 'bramblelaw14.RadixScript'. -/
def radixScriptCard : Claim7 := { stood := { row := radixScriptRow, standIns := [], harness := (true, "fec81622c4641c71c0916e851485add2a65cf6301ffc68b4b030183b341d6a06"), looks := false }, kinds := [], alts := [], laidByText := true, laidKinds := [.data, .data], laidTests := true, laidLooks := .later }
def RadixScriptCardSaid : Prop := Claim7.holds Tryz.pinned (.plain (OpenSpec.ofChange radixScriptSpec)) radixScriptCard

/-- THE SECOND FORM's CARD OF 'bramblelaw14.RadixAsks'. -/
def radixAsksUptoCard : Claim7 := { stood := { row := radixAsksUptoRow, standIns := [], harness := (true, "fec81622c4641c71c0916e851485add2a65cf6301ffc68b4b030183b341d6a06"), looks := false }, kinds := [], alts := [], laidByText := true, laidKinds := [.data], laidTests := true, laidLooks := .later }
def RadixAsksUptoCardSaid : Prop := Claim7.holds Tryz.pinned (.plain (OpenSpec.upto radixAsksSpec)) radixAsksUptoCard

/-- THE SECOND FORM's CARD OF 'bramblelaw14.RadixScript'. -/
def radixScriptUptoCard : Claim7 := { stood := { row := radixScriptUptoRow, standIns := [], harness := (true, "fec81622c4641c71c0916e851485add2a65cf6301ffc68b4b030183b341d6a06"), looks := false }, kinds := [], alts := [], laidByText := true, laidKinds := [.data, .data], laidTests := true, laidLooks := .later }
def RadixScriptUptoCardSaid : Prop := Claim7.holds Tryz.pinned (.plain (OpenSpec.upto radixScriptSpec)) radixScriptUptoCard
end Rows
end Go.Proofs.YtclnnkacfanaiaaGreatDoor
