/- Joined by a program: what the proof of the law leans on, part 3. -/
import Derived.Test.YtkpjcnlljdccjaaGreatA2
set_option linter.unusedVariables false
set_option linter.unusedSimpArgs false
section
namespace Go.AI
variable {P : Program} {call : CallA}
theorem Wp.mono {r : Option (Ex × St)} {Q R : Ex → List AV → AHeap → Prop} (h : Wp r Q) (k : ∀ e t H, Q e t H → R e t H) : Wp r R := by
  obtain ⟨e, t, H, rfl, hq⟩ := h.get
  exact k _ _ _ hq
end Go.AI
end
