/- Lemmas on lists and memory, out of the kit's printed words: those that this claim uses. No condition. -/
import Derived.Test.YtbkfjmpnbalkaaaVPTab
namespace Go.Proofs.YtbkfjmpnbalkaaaW.PrintLast
/-- Number i is listed too. -/
def up (b : Nat → Bool) (i : Nat) : Nat → Bool := fun j => if j = i then true else b j
end Go.Proofs.YtbkfjmpnbalkaaaW.PrintLast
