/- The run of the law QueryNone: it answers true. No condition. -/
import Derived.Test.YthnmiojncfhhmaaAm18
import Derived.Test.YthnmiojncfhhmaaChecked
import Derived.KernelRfl
namespace Go.Proofs.Ythnmiojncfhhmaa.runQueryNone
open Go.Am Go.RowKit
def F (f : Nat) : Bool := Nat.ble 2 f && Nat.blt f 115
set_option maxRecDepth 100000 in
theorem okAll : ((List.range' 2 113).all fun f => okFn Try.prog f) = true := by kernel_rfl
theorem hF (f : FuncId) (h : F f = true) : okFn Try.prog f = true := by
  unfold F at h
  rw [Bool.and_eq_true, Nat.ble_eq, Nat.blt_eq] at h
  exact List.all_eq_true.1 okAll f (List.mem_range'_1.2 (by omega))
set_option maxRecDepth 100000 in
theorem run (z0 : Int) (z1 : Int) : (callF Try.prog F 2000 10 [.int .i64 z0, .int .i64 z1] s0).map (·.1) = some (.bool true) := by kernel_rfl
theorem calls (z0 : Int) (z1 : Int) (W : World) : Calls Try.prog 10 #[.int .i64 z0, .int .i64 z1] W fun e W' => e = .returned (.bool true) ∧ Below W.heap.size W W' :=
  empty_calls (by kernel_rfl) hF rfl rfl (run z0 z1) W
end Go.Proofs.Ythnmiojncfhhmaa.runQueryNone
