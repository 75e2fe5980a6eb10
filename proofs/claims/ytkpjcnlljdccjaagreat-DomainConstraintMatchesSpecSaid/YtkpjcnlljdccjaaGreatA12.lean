/- Joined by a program: what the proof of the law leans on, part 12. -/
import Derived.Test.YtkpjcnlljdccjaaGreatA11
set_option linter.unusedVariables false
set_option linter.unusedSimpArgs false
section
namespace Go.Proofs.YtkpjcnlljdccjaaGreat
open Go.AI
set_option maxRecDepth 1000000
theorem Tryz.closed : (@callV Tryz.prog Tryz.base0 (viewT Tryz.prog Tryz.tyT 194) Tryz.fnT Tryz.tbT 400 10 [] .empty).map (·.1) = some (.one (.bool true)) := by kernel_rfl
end Go.Proofs.YtkpjcnlljdccjaaGreat
end
