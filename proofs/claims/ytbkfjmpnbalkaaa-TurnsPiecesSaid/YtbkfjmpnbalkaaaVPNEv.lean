/- Lemmas on lists and memory, out of the kit's printed words: those that this claim uses. No condition. -/
import Derived.Test.YtbkfjmpnbalkaaaVPN
