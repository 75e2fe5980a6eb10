/- Joined by a program: what the proof of the law leans on, part 13. -/
import Derived.Test.YtkpjcnlljdccjaaGreatA12
set_option linter.unusedVariables false
set_option linter.unusedSimpArgs false
section
namespace Go.Proofs.YtkpjcnlljdccjaaGreat
open Go.AI
set_option maxRecDepth 1000000
theorem Tryz.tbls_ok : TblsOk Tryz.prog Tryz.tbls := TblsOk.of (by kernel_rfl)
theorem Tryz.names_ok : NamesOk Tryz.prog := NamesOk.of_all (by decide +kernel)
theorem Tryz.mixed : Tryz.prog.follows .mixedOrders = true := by kernel_rfl
theorem Tryz.closed_run : ∃ (c : CallA) (H0 : AHeap), CallSound Tryz.prog c ∧ c 10 [] .empty = some (.one (.bool true), H0) := by
  obtain ⟨⟨v, H0⟩, h1, h2⟩ := Option.map_eq_some_iff.1 Tryz.closed
  have e := @callE_of_V Tryz.prog Tryz.base0 _ _ _ _ _ Tryz.tbls_ok Tryz.tyT_ok (by kernel_rfl) Tryz.fnT_ok Tryz.tbT_ok _ _ _ _ _ h1
  obtain ⟨n, e1, e2⟩ := @callE_sound Tryz.prog Tryz.base0 (fun _ _ _ _ _ h => by cases h) Tryz.names_ok Tryz.mixed _ _ _ _ _ e
  have h2' : v = .one (.bool true) := h2
  subst h2'
  exact ⟨_, H0, e2, e1⟩
end Go.Proofs.YtkpjcnlljdccjaaGreat
end
