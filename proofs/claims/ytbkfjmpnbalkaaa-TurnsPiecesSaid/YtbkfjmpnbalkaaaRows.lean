/-
  No cell of these rows narrows 'for every input' (looked for: loops, veiled, ifaces, maps, wideKeys, modest, calm, conditions, laid).
  DERIVED. THE GIVEN ROWS OF THIS SEAT. 5 by the template 'for every input the law returns true; each argument reads behind the call as it read before'; 0 by the template 'total and deterministic' (their statements: YtbkfjmpnbalkaaaTotals.lean).
  GIVEN WITH THE SEED: the statements are not yours to turn. If you find one false, say at which input.
  Laid BY PROGRAM, IN A SANDBOX (cutbox-rows.mjs): the forced cells as the released guide's own fill.sh prints them over the translation 2b0c220816d3add9… (all of the seat's roots in one cut). By AI agents, Wed Nov 11 2026. No macro, syntax, notation, axiom, sorry.
-/
import Derived.Test.YtbkfjmpnbalkaaaChecked
import GoSem.Claim
import GoSem.ClaimJoined
import GoSem.ClaimMapViews
import Derived.JoinedTies
import Derived.KernelRfl
namespace Go.Proofs.Ytbkfjmpnbalkaaa
/- THE CELL 'sum', in the pinned program and in every row, IS THE sha256 OF THE DUMP (.gsa) THAT YtbkfjmpnbalkaaaProg.lean LOADS. Nothing in Lean hashes anything: it is a label: what it is worth is what the hold of that sum in a sandbox is worth. -/
noncomputable def Try.pinned : Pinned := { name := "ytbkfjmpnbalkaaa", sum := "2b0c220816d3add9094bccb0d056733329b551a1fde54293a4773b43b1680e9e", checked := Try.checked }
namespace Rows
def none {H : Type} : Left H := { results := [], args := [] }

/-- 'mapmakerlaw47.TurnsOf': WHATEVER THE INPUT: true; the input reads as it did. -/
def turnsOfSpec : ChangeSpec := { name := "turnsOf", fn := fun _ => fun
  | [d] => { results := [.lit (.bool true)], args := [d] }
  | _ => none }
def turnsOfRow : OpenClaim := { program := "ytbkfjmpnbalkaaa", sum := "2b0c220816d3add9094bccb0d056733329b551a1fde54293a4773b43b1680e9e", func := "mapmaker/mapmakerlaw47.TurnsOf", spec := "turnsOf", unfollowed := true, recurses := true, apart := false }
def TurnsOfSaid : Prop := turnsOfRow.holds Try.pinned (OpenSpec.ofChange turnsOfSpec)

/-- ITS FALSE NEIGHBOUR: 'it returns false'. Refute it at one input. -/
def turnsOfWrong : ChangeSpec := { name := "turnsOf", fn := fun _ => fun
  | [d] => { results := [.lit (.bool false)], args := [d] }
  | _ => none }
def TurnsOfWrongFalsely : Prop := turnsOfRow.holds Try.pinned (OpenSpec.ofChange turnsOfWrong)

/-- 'mapmakerlaw47.TurnsAllows': WHATEVER THE INPUT: true; the input reads as it did. -/
def turnsAllowsSpec : ChangeSpec := { name := "turnsAllows", fn := fun _ => fun
  | [d1, d2, d3, d4] => { results := [.lit (.bool true)], args := [d1, d2, d3, d4] }
  | _ => none }
def turnsAllowsRow : OpenClaim := { program := "ytbkfjmpnbalkaaa", sum := "2b0c220816d3add9094bccb0d056733329b551a1fde54293a4773b43b1680e9e", func := "mapmaker/mapmakerlaw47.TurnsAllows", spec := "turnsAllows", unfollowed := true, recurses := true, apart := false }
def TurnsAllowsSaid : Prop := turnsAllowsRow.holds Try.pinned (OpenSpec.ofChange turnsAllowsSpec)

/-- ITS FALSE NEIGHBOUR: 'it returns false'. Refute it at one input. -/
def turnsAllowsWrong : ChangeSpec := { name := "turnsAllows", fn := fun _ => fun
  | [d1, d2, d3, d4] => { results := [.lit (.bool false)], args := [d1, d2, d3, d4] }
  | _ => none }
def TurnsAllowsWrongFalsely : Prop := turnsAllowsRow.holds Try.pinned (OpenSpec.ofChange turnsAllowsWrong)

/-- 'mapmakerlaw47.TurnsFrees': WHATEVER THE INPUT: true; the input reads as it did. -/
def turnsFreesSpec : ChangeSpec := { name := "turnsFrees", fn := fun _ => fun
  | [d1, d2, d3, d4, d5] => { results := [.lit (.bool true)], args := [d1, d2, d3, d4, d5] }
  | _ => none }
def turnsFreesRow : OpenClaim := { program := "ytbkfjmpnbalkaaa", sum := "2b0c220816d3add9094bccb0d056733329b551a1fde54293a4773b43b1680e9e", func := "mapmaker/mapmakerlaw47.TurnsFrees", spec := "turnsFrees", unfollowed := true, recurses := true, apart := false }
def TurnsFreesSaid : Prop := turnsFreesRow.holds Try.pinned (OpenSpec.ofChange turnsFreesSpec)

/-- ITS FALSE NEIGHBOUR: 'it returns false'. Refute it at one input. -/
def turnsFreesWrong : ChangeSpec := { name := "turnsFrees", fn := fun _ => fun
  | [d1, d2, d3, d4, d5] => { results := [.lit (.bool false)], args := [d1, d2, d3, d4, d5] }
  | _ => none }
def TurnsFreesWrongFalsely : Prop := turnsFreesRow.holds Try.pinned (OpenSpec.ofChange turnsFreesWrong)

/-- 'mapmakerlaw47.TurnsPieces': WHATEVER THE INPUT: true; the input reads as it did. -/
def turnsPiecesSpec : ChangeSpec := { name := "turnsPieces", fn := fun _ => fun
  | [d1, d2, d3] => { results := [.lit (.bool true)], args := [d1, d2, d3] }
  | _ => none }
def turnsPiecesRow : OpenClaim := { program := "ytbkfjmpnbalkaaa", sum := "2b0c220816d3add9094bccb0d056733329b551a1fde54293a4773b43b1680e9e", func := "mapmaker/mapmakerlaw47.TurnsPieces", spec := "turnsPieces", unfollowed := true, recurses := true, apart := false }
def TurnsPiecesSaid : Prop := turnsPiecesRow.holds Try.pinned (OpenSpec.ofChange turnsPiecesSpec)

/-- ITS FALSE NEIGHBOUR: 'it returns false'. Refute it at one input. -/
def turnsPiecesWrong : ChangeSpec := { name := "turnsPieces", fn := fun _ => fun
  | [d1, d2, d3] => { results := [.lit (.bool false)], args := [d1, d2, d3] }
  | _ => none }
def TurnsPiecesWrongFalsely : Prop := turnsPiecesRow.holds Try.pinned (OpenSpec.ofChange turnsPiecesWrong)

/-- 'mapmakerlaw47.TurnsObeys': WHATEVER THE INPUT: true; the input reads as it did. -/
def turnsObeysSpec : ChangeSpec := { name := "turnsObeys", fn := fun _ => fun
  | [d1, d2, d3, d4, d5] => { results := [.lit (.bool true)], args := [d1, d2, d3, d4, d5] }
  | _ => none }
def turnsObeysRow : OpenClaim := { program := "ytbkfjmpnbalkaaa", sum := "2b0c220816d3add9094bccb0d056733329b551a1fde54293a4773b43b1680e9e", func := "mapmaker/mapmakerlaw47.TurnsObeys", spec := "turnsObeys", unfollowed := true, recurses := true, apart := false }
def TurnsObeysSaid : Prop := turnsObeysRow.holds Try.pinned (OpenSpec.ofChange turnsObeysSpec)

/-- ITS FALSE NEIGHBOUR: 'it returns false'. Refute it at one input. -/
def turnsObeysWrong : ChangeSpec := { name := "turnsObeys", fn := fun _ => fun
  | [d1, d2, d3, d4, d5] => { results := [.lit (.bool false)], args := [d1, d2, d3, d4, d5] }
  | _ => none }
def TurnsObeysWrongFalsely : Prop := turnsObeysRow.holds Try.pinned (OpenSpec.ofChange turnsObeysWrong)

/- THE SECOND FORM. 'bulk': how many values and letters a reading holds, each counted each time it is reached (what is shared counts as often as it is met; a slice's spare places count too). A statement '..UptoSaid' is the law's where the arguments, and the package variables that the reading takes, are together of bulk at most 1048576: NARROWER than '..Said'. Prove '..Said' where nothing that the law and all that it calls make is longer than what came in: it says more and counts as full. Else prove '..UptoSaid'. A law counts once. -/
mutual
def uptoBulk {H : Type} : DataW H → Nat
  | .lit (.string bytes) => bytes.length + 1
  | .lit _ => 1
  | .nil => 1
  | .ptr d => uptoBulk d + 1
  | .slice elems spare => uptoBulkAll elems + uptoBulkAll spare + 1
  | .agg parts => uptoBulkAll parts + 1
  | .iface _ d => uptoBulk d + 1
  | .map entries => uptoBulkEntries entries + 1
  | .held _ => 1
def uptoBulkAll {H : Type} : List (DataW H) → Nat
  | [] => 0
  | d :: r => uptoBulk d + uptoBulkAll r
def uptoBulkEntries {H : Type} : List (Lit × DataW H) → Nat
  | [] => 0
  | x :: r => uptoBulkEntry x + uptoBulkEntries r
def uptoBulkEntry {H : Type} : Lit × DataW H → Nat
  | (.string bytes, d) => bytes.length + uptoBulk d + 1
  | (_, d) => uptoBulk d + 1
 end
def uptoSmall : (H : Type) → List (DataW H) → Bool := fun _ ds => decide (uptoBulkAll ds ≤ 1048576)
def OpenSpec.upto (s : _root_.Go.ChangeSpec) : _root_.Go.OpenSpec := { _root_.Go.OpenSpec.ofChange s with cond := some uptoSmall }

/-- 'mapmakerlaw47.TurnsOf', WHERE WHAT IT READS IS OF BULK AT MOST 1048576: true; the input reads as it did. -/
def turnsOfUptoRow : OpenClaim := { program := "ytbkfjmpnbalkaaa", sum := "2b0c220816d3add9094bccb0d056733329b551a1fde54293a4773b43b1680e9e", func := "mapmaker/mapmakerlaw47.TurnsOf", spec := "turnsOf", unfollowed := true, recurses := true, apart := false, narrowed := true }
def TurnsOfUptoSaid : Prop := turnsOfUptoRow.holds Try.pinned (OpenSpec.upto turnsOfSpec)

/-- 'mapmakerlaw47.TurnsAllows', WHERE WHAT IT READS IS OF BULK AT MOST 1048576: true; the input reads as it did. -/
def turnsAllowsUptoRow : OpenClaim := { program := "ytbkfjmpnbalkaaa", sum := "2b0c220816d3add9094bccb0d056733329b551a1fde54293a4773b43b1680e9e", func := "mapmaker/mapmakerlaw47.TurnsAllows", spec := "turnsAllows", unfollowed := true, recurses := true, apart := false, narrowed := true }
def TurnsAllowsUptoSaid : Prop := turnsAllowsUptoRow.holds Try.pinned (OpenSpec.upto turnsAllowsSpec)

/-- 'mapmakerlaw47.TurnsFrees', WHERE WHAT IT READS IS OF BULK AT MOST 1048576: true; the input reads as it did. -/
def turnsFreesUptoRow : OpenClaim := { program := "ytbkfjmpnbalkaaa", sum := "2b0c220816d3add9094bccb0d056733329b551a1fde54293a4773b43b1680e9e", func := "mapmaker/mapmakerlaw47.TurnsFrees", spec := "turnsFrees", unfollowed := true, recurses := true, apart := false, narrowed := true }
def TurnsFreesUptoSaid : Prop := turnsFreesUptoRow.holds Try.pinned (OpenSpec.upto turnsFreesSpec)

/-- 'mapmakerlaw47.TurnsPieces', WHERE WHAT IT READS IS OF BULK AT MOST 1048576: true; the input reads as it did. -/
def turnsPiecesUptoRow : OpenClaim := { program := "ytbkfjmpnbalkaaa", sum := "2b0c220816d3add9094bccb0d056733329b551a1fde54293a4773b43b1680e9e", func := "mapmaker/mapmakerlaw47.TurnsPieces", spec := "turnsPieces", unfollowed := true, recurses := true, apart := false, narrowed := true }
def TurnsPiecesUptoSaid : Prop := turnsPiecesUptoRow.holds Try.pinned (OpenSpec.upto turnsPiecesSpec)

/-- 'mapmakerlaw47.TurnsObeys', WHERE WHAT IT READS IS OF BULK AT MOST 1048576: true; the input reads as it did. -/
def turnsObeysUptoRow : OpenClaim := { program := "ytbkfjmpnbalkaaa", sum := "2b0c220816d3add9094bccb0d056733329b551a1fde54293a4773b43b1680e9e", func := "mapmaker/mapmakerlaw47.TurnsObeys", spec := "turnsObeys", unfollowed := true, recurses := true, apart := false, narrowed := true }
def TurnsObeysUptoSaid : Prop := turnsObeysUptoRow.holds Try.pinned (OpenSpec.upto turnsObeysSpec)

end Rows
end Go.Proofs.Ytbkfjmpnbalkaaa
