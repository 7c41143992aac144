/-
  NARROWER THAN 'FOR EVERY INPUT', by the rows' own cells (each row's printed sentence says how): RadixAsks: laid · RadixScript: laid.
  DERIVED. THE GIVEN ROWS OF THIS SEAT. 2 by the template 'for every input the law returns true; each argument reads behind the call as it read before'; 0 by the template 'total and deterministic' (their statements: YtclnnkacfanaiaaGreatDoorTotals.lean).
  GIVEN WITH THE SEED: the statements are not yours to turn. If you find one false, say at which input.
  Laid BY PROGRAM, IN A SANDBOX (cutbox-rows.mjs): the forced cells as the released guide's own fill.sh prints them over the translation 8dca8db2546584f5… (all of the seat's roots in one cut). By AI agents, Wed Nov 11 2026. No macro, syntax, notation, axiom, sorry.
-/
import Derived.Test.YtclnnkacfanaiaaGreatDoorChecked
import GoSem.Claim
import GoSem.ClaimJoined
import GoSem.ClaimMapViews
import Derived.JoinedTies
import Derived.KernelRfl
namespace Go.Proofs.YtclnnkacfanaiaaGreatDoor
/- THE CELL 'sum', in the pinned program and in every row, IS THE sha256 OF THE DUMP (.gsa) THAT YtclnnkacfanaiaaGreatDoorProg.lean LOADS. Nothing in Lean hashes anything: it is a label: what it is worth is what the hold of that sum in a sandbox is worth. -/
noncomputable def Tryz.pinned : Pinned := { name := "ytclnnkacfanaiaagreatdoor", sum := "8dca8db2546584f51b5edb5bca2e69da869b55675a6b20042679fb0279b02009", checked := Tryz.checked }
namespace Rows
def none {H : Type} : Left H := { results := [], args := [] }

/- WHAT THE LISTED PACKAGE-LEVEL VARIABLES READ AS WHEN THE CALL BEGINS. Each datum BY PROGRAM (the guide's laid-datum.mjs) off the statement by which the dump's own 'gosem.cut.vars' lays the variable. In a bare row this is a premise. The card (YtclnnkacfanaiaaGreatDoorCards.lean) ties it to the program's text. -/
def laid_bramble_kid_room {H : Type} : DataW H := .agg [.lit (.int .i64 4), .lit (.int .i64 16), .lit (.int .i64 48), .lit (.int .i64 256)]
def laid_bramble_kid_left {H : Type} : DataW H := .agg [.lit (.int .i64 (-1)), .lit (.int .i64 3), .lit (.int .i64 12), .lit (.int .i64 40)]

/-- 'bramblelaw14.RadixAsks': WHATEVER THE INPUT: true; the input reads as it did. -/
def radixAsksSpec : ChangeSpec := { name := "radixAsks", fn := fun _ => fun
  | [d1, d2, d3] => { results := [.lit (.bool true)], args := [d1, d2, d3] }
  | _ => none }
def radixAsksRow : OpenClaim := { program := "ytclnnkacfanaiaagreatdoor", sum := "8dca8db2546584f51b5edb5bca2e69da869b55675a6b20042679fb0279b02009", func := "bramble/bramblelaw14.RadixAsks", spec := "radixAsks", inPlace := ["internal/bytealg.Compare", "slices.overlaps[bramble/api.Pair]"], unfollowed := true, recurses := true, named := ["bramble/kid.room"], apart := false, laid := [("bramble/kid.room", laid_bramble_kid_room)] }
def RadixAsksSaid : Prop := radixAsksRow.holds Tryz.pinned (OpenSpec.ofChange radixAsksSpec)

/-- ITS FALSE NEIGHBOUR: 'it returns false'. Refute it at one input. -/
def radixAsksWrong : ChangeSpec := { name := "radixAsks", fn := fun _ => fun
  | [d1, d2, d3] => { results := [.lit (.bool false)], args := [d1, d2, d3] }
  | _ => none }
def RadixAsksWrongFalsely : Prop := radixAsksRow.holds Tryz.pinned (OpenSpec.ofChange radixAsksWrong)

/-- 'bramblelaw14.RadixScript': WHATEVER THE INPUT: true; the input reads as it did. -/
def radixScriptSpec : ChangeSpec := { name := "radixScript", fn := fun _ => fun
  | [d1, d2, d3] => { results := [.lit (.bool true)], args := [d1, d2, d3] }
  | _ => none }
def radixScriptRow : OpenClaim := { program := "ytclnnkacfanaiaagreatdoor", sum := "8dca8db2546584f51b5edb5bca2e69da869b55675a6b20042679fb0279b02009", func := "bramble/bramblelaw14.RadixScript", spec := "radixScript", inPlace := ["internal/bytealg.Compare", "slices.overlaps[bramble/api.Pair]"], unfollowed := true, recurses := true, named := ["bramble/kid.room", "bramble/kid.left"], apart := false, laid := [("bramble/kid.room", laid_bramble_kid_room), ("bramble/kid.left", laid_bramble_kid_left)] }
def RadixScriptSaid : Prop := radixScriptRow.holds Tryz.pinned (OpenSpec.ofChange radixScriptSpec)

/-- ITS FALSE NEIGHBOUR: 'it returns false'. Refute it at one input. -/
def radixScriptWrong : ChangeSpec := { name := "radixScript", fn := fun _ => fun
  | [d1, d2, d3] => { results := [.lit (.bool false)], args := [d1, d2, d3] }
  | _ => none }
def RadixScriptWrongFalsely : Prop := radixScriptRow.holds Tryz.pinned (OpenSpec.ofChange radixScriptWrong)

/- THE SECOND FORM. 'bulk': how many values and letters a reading holds, each counted each time it is reached (what is shared counts as often as it is met; a slice's spare places count too). A statement '..UptoSaid' is the law's where the arguments, and the package variables that the reading takes, are together of bulk at most 1048576: NARROWER than '..Said'. Prove '..Said' where nothing that the law and all that it calls make is longer than what came in: it says more and counts as full. Else prove '..UptoSaid'. A law counts once. -/
mutual
def uptoBulk {H : Type} : DataW H → Nat
  | .lit (.string bytes) => bytes.length + 1
  | .lit _ => 1
  | .nil => 1
  | .ptr d => uptoBulk d + 1
  | .slice elems spare => uptoBulkAll elems + uptoBulkAll spare + 1
  | .agg parts => uptoBulkAll parts + 1
  | .iface _ d => uptoBulk d + 1
  | .map entries => uptoBulkEntries entries + 1
  | .held _ => 1
def uptoBulkAll {H : Type} : List (DataW H) → Nat
  | [] => 0
  | d :: r => uptoBulk d + uptoBulkAll r
def uptoBulkEntries {H : Type} : List (Lit × DataW H) → Nat
  | [] => 0
  | x :: r => uptoBulkEntry x + uptoBulkEntries r
def uptoBulkEntry {H : Type} : Lit × DataW H → Nat
  | (.string bytes, d) => bytes.length + uptoBulk d + 1
  | (_, d) => uptoBulk d + 1
 end
def uptoSmall : (H : Type) → List (DataW H) → Bool := fun _ ds => decide (uptoBulkAll ds ≤ 1048576)
def OpenSpec.upto (s : _root_.Go.ChangeSpec) : _root_.Go.OpenSpec := { _root_.Go.OpenSpec.ofChange s with cond := some uptoSmall }

/-- 'bramblelaw14.RadixAsks', WHERE WHAT IT READS IS OF BULK AT MOST 1048576: true; the input reads as it did. -/
def radixAsksUptoRow : OpenClaim := { program := "ytclnnkacfanaiaagreatdoor", sum := "8dca8db2546584f51b5edb5bca2e69da869b55675a6b20042679fb0279b02009", func := "bramble/bramblelaw14.RadixAsks", spec := "radixAsks", inPlace := ["internal/bytealg.Compare", "slices.overlaps[bramble/api.Pair]"], unfollowed := true, recurses := true, named := ["bramble/kid.room"], apart := false, laid := [("bramble/kid.room", laid_bramble_kid_room)], narrowed := true }
def RadixAsksUptoSaid : Prop := radixAsksUptoRow.holds Tryz.pinned (OpenSpec.upto radixAsksSpec)

/-- 'bramblelaw14.RadixScript', WHERE WHAT IT READS IS OF BULK AT MOST 1048576: true; the input reads as it did. -/
def radixScriptUptoRow : OpenClaim := { program := "ytclnnkacfanaiaagreatdoor", sum := "8dca8db2546584f51b5edb5bca2e69da869b55675a6b20042679fb0279b02009", func := "bramble/bramblelaw14.RadixScript", spec := "radixScript", inPlace := ["internal/bytealg.Compare", "slices.overlaps[bramble/api.Pair]"], unfollowed := true, recurses := true, named := ["bramble/kid.room", "bramble/kid.left"], apart := false, laid := [("bramble/kid.room", laid_bramble_kid_room), ("bramble/kid.left", laid_bramble_kid_left)], narrowed := true }
def RadixScriptUptoSaid : Prop := radixScriptUptoRow.holds Tryz.pinned (OpenSpec.upto radixScriptSpec)

end Rows
end Go.Proofs.YtclnnkacfanaiaaGreatDoor
