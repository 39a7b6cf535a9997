/- Lemmas on lists and memory, out of the kit's printed words: those that this claim uses. No condition. -/
import Derived.Test.YtbkfjmpnbalkaaaVPFootNe
namespace Go.Proofs.YtbkfjmpnbalkaaaW.PrintWords
open Go.RowKit
section
variable {w w' u : World} {m B g : Nat} {o : Obj} {row : Option Nat} {S : Nat → Prop} {a : Addr} {v : Value}
theorem blk_at (hq : w.drewN m = w') (h : w.heap[g]? = some o) : w'.heap[g]? = some o := by subst hq; exact h
end
end Go.Proofs.YtbkfjmpnbalkaaaW.PrintWords
