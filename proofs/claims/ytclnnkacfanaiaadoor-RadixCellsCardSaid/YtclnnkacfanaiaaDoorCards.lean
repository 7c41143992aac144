/-
  DERIVED. GIVEN WITH THE SEED: THE CARDS: each row of YtclnnkacfanaiaaDoorRows.lean that lists a variable, with what it lists TIED to the program's text (the seventh form; the later family's looks); each row that meets fmt, with fmt's text TOLD by the authors' own Lean function (tested against real Go, not proved from fmt's source: count such statements apart). THE CARD IS WHAT COUNTS. Prove the row's statement (the work); the ties are given (YtclnnkacfanaiaaDoorTie.lean); close each card by the builder's one call (the guide's Derived/Test/ToyasCard.lean, 'card_holds'). Laid BY PROGRAM, IN A SANDBOX (cutbox-door.mjs). By AI agents, Wed Nov 11 2026. No macro, syntax, notation, axiom, sorry.
-/
import Derived.Test.YtclnnkacfanaiaaDoorRows
import GoSem.ClaimSeven
namespace Go.Proofs.YtclnnkacfanaiaaDoor
namespace Rows

/-- THE TIED CARD OF 'bramblelaw14.RadixBegins'. -/
def radixBeginsCard : Claim7 := { stood := { row := radixBeginsRow, standIns := [], harness := (true, "ecce178eaad04459afb8ccc92e4d2a22b1e163e47b87319aec7ce6fc9ad3f62b"), looks := false }, kinds := [], alts := [], laidByText := true, laidKinds := [.data], laidTests := true, laidLooks := .later }
def RadixBeginsCardSaid : Prop := Claim7.holds Tryd.pinned (.plain (OpenSpec.ofChange radixBeginsSpec)) radixBeginsCard

/-- THE TIED CARD OF 'bramblelaw14.RadixOrders'. -/
def radixOrdersCard : Claim7 := { stood := { row := radixOrdersRow, standIns := [], harness := (true, "ecce178eaad04459afb8ccc92e4d2a22b1e163e47b87319aec7ce6fc9ad3f62b"), looks := false }, kinds := [], alts := [], laidByText := true, laidKinds := [.data], laidTests := true, laidLooks := .later }
def RadixOrdersCardSaid : Prop := Claim7.holds Tryd.pinned (.plain (OpenSpec.ofChange radixOrdersSpec)) radixOrdersCard

/-- THE TIED CARD OF 'bramblelaw14.RadixLeaves'. -/
def radixLeavesCard : Claim7 := { stood := { row := radixLeavesRow, standIns := [], harness := (true, "ecce178eaad04459afb8ccc92e4d2a22b1e163e47b87319aec7ce6fc9ad3f62b"), looks := false }, kinds := [], alts := [], laidByText := true, laidKinds := [.data], laidTests := true, laidLooks := .later }
def RadixLeavesCardSaid : Prop := Claim7.holds Tryd.pinned (.plain (OpenSpec.ofChange radixLeavesSpec)) radixLeavesCard

/-- THE TIED CARD OF 'bramblelaw14.RadixKinds'. -/
def radixKindsCard : Claim7 := { stood := { row := radixKindsRow, standIns := [], harness := (true, "ecce178eaad04459afb8ccc92e4d2a22b1e163e47b87319aec7ce6fc9ad3f62b"), looks := false }, kinds := [], alts := [], laidByText := true, laidKinds := [.data, .data], laidTests := true, laidLooks := .later }
def RadixKindsCardSaid : Prop := Claim7.holds Tryd.pinned (.plain (OpenSpec.ofChange radixKindsSpec)) radixKindsCard

/-- THE TIED CARD OF 'bramblelaw14.RadixRoom'. -/
def radixRoomCard : Claim7 := { stood := { row := radixRoomRow, standIns := [], harness := (true, "ecce178eaad04459afb8ccc92e4d2a22b1e163e47b87319aec7ce6fc9ad3f62b"), looks := false }, kinds := [], alts := [], laidByText := true, laidKinds := [.data, .data], laidTests := true, laidLooks := .later }
def RadixRoomCardSaid : Prop := Claim7.holds Tryd.pinned (.plain (OpenSpec.ofChange radixRoomSpec)) radixRoomCard

/-- THE TIED CARD OF 'bramblelaw14.RadixCells'. -/
def radixCellsCard : Claim7 := { stood := { row := radixCellsRow, standIns := [], harness := (true, "ecce178eaad04459afb8ccc92e4d2a22b1e163e47b87319aec7ce6fc9ad3f62b"), looks := false }, kinds := [], alts := [], laidByText := true, laidKinds := [.data, .data], laidTests := true, laidLooks := .later }
def RadixCellsCardSaid : Prop := Claim7.holds Tryd.pinned (.plain (OpenSpec.ofChange radixCellsSpec)) radixCellsCard

/-- THE TIED CARD OF 'bramblelaw14.RadixBuilds'. -/
def radixBuildsCard : Claim7 := { stood := { row := radixBuildsRow, standIns := [], harness := (true, "ecce178eaad04459afb8ccc92e4d2a22b1e163e47b87319aec7ce6fc9ad3f62b"), looks := false }, kinds := [], alts := [], laidByText := true, laidKinds := [.data, .data], laidTests := true, laidLooks := .later }
def RadixBuildsCardSaid : Prop := Claim7.holds Tryd.pinned (.plain (OpenSpec.ofChange radixBuildsSpec)) radixBuildsCard

/-- THE TIED CARD OF 'bramblelaw14.RadixUndoes'. -/
def radixUndoesCard : Claim7 := { stood := { row := radixUndoesRow, standIns := [], harness := (true, "ecce178eaad04459afb8ccc92e4d2a22b1e163e47b87319aec7ce6fc9ad3f62b"), looks := false }, kinds := [], alts := [], laidByText := true, laidKinds := [.data, .data], laidTests := true, laidLooks := .later }
def RadixUndoesCardSaid : Prop := Claim7.holds Tryd.pinned (.plain (OpenSpec.ofChange radixUndoesSpec)) radixUndoesCard

/-- THE TIED CARD OF 'bramblelaw14.RadixNone'. -/
def radixNoneCard : Claim7 := { stood := { row := radixNoneRow, standIns := [], harness := (true, "ecce178eaad04459afb8ccc92e4d2a22b1e163e47b87319aec7ce6fc9ad3f62b"), looks := false }, kinds := [], alts := [], laidByText := true, laidKinds := [.data, .data], laidTests := true, laidLooks := .later }
def RadixNoneCardSaid : Prop := Claim7.holds Tryd.pinned (.plain (OpenSpec.ofChange radixNoneSpec)) radixNoneCard

/-- THE SECOND FORM's CARD OF 'bramblelaw14.RadixBegins'. -/
def radixBeginsUptoCard : Claim7 := { stood := { row := radixBeginsUptoRow, standIns := [], harness := (true, "ecce178eaad04459afb8ccc92e4d2a22b1e163e47b87319aec7ce6fc9ad3f62b"), looks := false }, kinds := [], alts := [], laidByText := true, laidKinds := [.data], laidTests := true, laidLooks := .later }
def RadixBeginsUptoCardSaid : Prop := Claim7.holds Tryd.pinned (.plain (OpenSpec.upto radixBeginsSpec)) radixBeginsUptoCard

/-- THE SECOND FORM's CARD OF 'bramblelaw14.RadixOrders'. -/
def radixOrdersUptoCard : Claim7 := { stood := { row := radixOrdersUptoRow, standIns := [], harness := (true, "ecce178eaad04459afb8ccc92e4d2a22b1e163e47b87319aec7ce6fc9ad3f62b"), looks := false }, kinds := [], alts := [], laidByText := true, laidKinds := [.data], laidTests := true, laidLooks := .later }
def RadixOrdersUptoCardSaid : Prop := Claim7.holds Tryd.pinned (.plain (OpenSpec.upto radixOrdersSpec)) radixOrdersUptoCard

/-- THE SECOND FORM's CARD OF 'bramblelaw14.RadixLeaves'. -/
def radixLeavesUptoCard : Claim7 := { stood := { row := radixLeavesUptoRow, standIns := [], harness := (true, "ecce178eaad04459afb8ccc92e4d2a22b1e163e47b87319aec7ce6fc9ad3f62b"), looks := false }, kinds := [], alts := [], laidByText := true, laidKinds := [.data], laidTests := true, laidLooks := .later }
def RadixLeavesUptoCardSaid : Prop := Claim7.holds Tryd.pinned (.plain (OpenSpec.upto radixLeavesSpec)) radixLeavesUptoCard

/-- THE SECOND FORM's CARD OF 'bramblelaw14.RadixKinds'. -/
def radixKindsUptoCard : Claim7 := { stood := { row := radixKindsUptoRow, standIns := [], harness := (true, "ecce178eaad04459afb8ccc92e4d2a22b1e163e47b87319aec7ce6fc9ad3f62b"), looks := false }, kinds := [], alts := [], laidByText := true, laidKinds := [.data, .data], laidTests := true, laidLooks := .later }
def RadixKindsUptoCardSaid : Prop := Claim7.holds Tryd.pinned (.plain (OpenSpec.upto radixKindsSpec)) radixKindsUptoCard

/-- THE SECOND FORM's CARD OF 'bramblelaw14.RadixRoom'. -/
def radixRoomUptoCard : Claim7 := { stood := { row := radixRoomUptoRow, standIns := [], harness := (true, "ecce178eaad04459afb8ccc92e4d2a22b1e163e47b87319aec7ce6fc9ad3f62b"), looks := false }, kinds := [], alts := [], laidByText := true, laidKinds := [.data, .data], laidTests := true, laidLooks := .later }
def RadixRoomUptoCardSaid : Prop := Claim7.holds Tryd.pinned (.plain (OpenSpec.upto radixRoomSpec)) radixRoomUptoCard

/-- THE SECOND FORM's CARD OF 'bramblelaw14.RadixCells'. -/
def radixCellsUptoCard : Claim7 := { stood := { row := radixCellsUptoRow, standIns := [], harness := (true, "ecce178eaad04459afb8ccc92e4d2a22b1e163e47b87319aec7ce6fc9ad3f62b"), looks := false }, kinds := [], alts := [], laidByText := true, laidKinds := [.data, .data], laidTests := true, laidLooks := .later }
def RadixCellsUptoCardSaid : Prop := Claim7.holds Tryd.pinned (.plain (OpenSpec.upto radixCellsSpec)) radixCellsUptoCard

/-- THE SECOND FORM's CARD OF 'bramblelaw14.RadixBuilds'. -/
def radixBuildsUptoCard : Claim7 := { stood := { row := radixBuildsUptoRow, standIns := [], harness := (true, "ecce178eaad04459afb8ccc92e4d2a22b1e163e47b87319aec7ce6fc9ad3f62b"), looks := false }, kinds := [], alts := [], laidByText := true, laidKinds := [.data, .data], laidTests := true, laidLooks := .later }
def RadixBuildsUptoCardSaid : Prop := Claim7.holds Tryd.pinned (.plain (OpenSpec.upto radixBuildsSpec)) radixBuildsUptoCard

/-- THE SECOND FORM's CARD OF 'bramblelaw14.RadixUndoes'. -/
def radixUndoesUptoCard : Claim7 := { stood := { row := radixUndoesUptoRow, standIns := [], harness := (true, "ecce178eaad04459afb8ccc92e4d2a22b1e163e47b87319aec7ce6fc9ad3f62b"), looks := false }, kinds := [], alts := [], laidByText := true, laidKinds := [.data, .data], laidTests := true, laidLooks := .later }
def RadixUndoesUptoCardSaid : Prop := Claim7.holds Tryd.pinned (.plain (OpenSpec.upto radixUndoesSpec)) radixUndoesUptoCard

/-- THE SECOND FORM's CARD OF 'bramblelaw14.RadixNone'. -/
def radixNoneUptoCard : Claim7 := { stood := { row := radixNoneUptoRow, standIns := [], harness := (true, "ecce178eaad04459afb8ccc92e4d2a22b1e163e47b87319aec7ce6fc9ad3f62b"), looks := false }, kinds := [], alts := [], laidByText := true, laidKinds := [.data, .data], laidTests := true, laidLooks := .later }
def RadixNoneUptoCardSaid : Prop := Claim7.holds Tryd.pinned (.plain (OpenSpec.upto radixNoneSpec)) radixNoneUptoCard
end Rows
end Go.Proofs.YtclnnkacfanaiaaDoor
