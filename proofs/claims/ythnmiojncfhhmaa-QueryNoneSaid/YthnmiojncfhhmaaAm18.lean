/- A run of the abstract machine from empty memory is a call of the model. No condition but that the functions were looked at. -/
import Derived.Test.YthnmiojncfhhmaaAm17
set_option linter.unusedVariables false
set_option linter.unusedSimpArgs false
set_option linter.unusedSectionVars false
namespace Go.Am
open Go.RowKit (Below)
def s0 : St := ⟨fun _ => none, 0, 0⟩
theorem HRel.empty (w : World) : HRel w.heap.size (fun _ => none) (fun _ => none) w :=
  ⟨Nat.le_refl _, fun b x h => (nomatch h), fun b b' x x' B O K B' O' K' _ h => (nomatch h)⟩
theorem empty_calls {P : Program} {F : FuncId → Bool} (hm : P.follows .mixedOrders = true) (hF : ∀ f, F f = true → okFn P f = true) {k : Nat} {f : FuncId} {args : List Value} {v : Value}
    (ha : plainL args = true) (hv : plain v = true) (h : (callF P F k f args s0).map (·.1) = some v) (w : World) : Calls P f ⟨args⟩ w fun e w' => e = .returned v ∧ Below w.heap.size w w' := by
  obtain ⟨⟨v', s'⟩, h1, rfl⟩ := Option.map_eq_some_iff.1 h
  have h2 := callF_sound hm hF k f args s0 v' s' h1 (fun _ _ _ => rfl) w.heap.size (fun _ => none) w args (HRel.empty w) (plain_relL ha) (fun _ _ _ => rfl)
  refine h2.calls.mono fun e w' ⟨φ', u, he, _, _, hb, hr⟩ => ?_
  obtain rfl : u = v' := rel_plain hr hv
  exact ⟨he, hb⟩
end Go.Am
