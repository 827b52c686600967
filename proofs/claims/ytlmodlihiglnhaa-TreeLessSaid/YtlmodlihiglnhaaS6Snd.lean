/- All calls are sound: slices.Delete is the primitive at its six types. -/
import Derived.Test.YtlmodlihiglnhaaS6DelMore
set_option linter.unusedVariables false
namespace Go.AL.S6
open Go Go.AL
theorem snd (n : Nat) : CallOk Pr (acall Pr T n) := sound tok fok mixed (prims (by
  intro x hx
  simp only [extras, List.mem_cons, List.not_mem_nil, or_false] at hx
  rcases hx with rfl | rfl | rfl | rfl | rfl | rfl
  · exact del90_ok
  · exact del92_ok
  · exact del94_ok
  · exact del96_ok
  · exact del98_ok
  · exact del100_ok)) n
end Go.AL.S6
