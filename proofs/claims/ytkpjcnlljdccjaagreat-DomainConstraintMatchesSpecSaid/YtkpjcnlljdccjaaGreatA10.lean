/- Joined by a program: what the proof of the law leans on, part 10. -/
import Derived.Test.YtkpjcnlljdccjaaGreatA9
set_option linter.unusedVariables false
set_option linter.unusedSimpArgs false
section
namespace Go.AI
theorem NamesOk.of_all {P : Program} (h : P.funcs.toList.all (fun fn => !(fn.name == "runtime.NumGoroutine")) = true) : NamesOk P := by
  intro f fn hf
  have hm : fn ∈ P.funcs.toList := by
    rw [Array.mem_toList_iff]
    exact Array.mem_of_getElem? hf
  have := List.all_eq_true.1 h fn hm
  simpa using this
theorem told_closed {P : Program} {c : CallA} {f : FuncId} {b : Bool} {H0 : AHeap} (hs : CallSound P c) (hlt : f < P.funcs.size) (hr : c f [] .empty = some (.one (.bool b), H0)) (H : AHeap) :
    ∀ μ w (rargs : Array Value), All2 (VRel μ w) [] rargs.toList → WF H → Rel μ H.get w → Free μ H.size H.size → Calls P f rargs w (CallPost μ H w H (.one (.bool b))) := by
  intro μ w rargs hra wf rel fr
  obtain ⟨hsz, h⟩ := hs _ _ _ _ _ hr
  rcases h with ⟨_, h⟩ | ⟨h, _⟩
  · have rel0 : Rel (fun _ => none) AHeap.empty.get w := ⟨fun _ _ _ h => by simp at h, fun _ _ _ _ h => by simp at h, fun _ _ _ _ _ _ _ _ h => by simp at h, fun b1 _ _ _ _ h => by simp [AHeap.empty, AHeap.get] at h⟩
    have hra0 : All2 (VRel (fun _ => none) w) [] rargs.toList := by
      cases hl : rargs.toList with
      | nil => trivial
      | cons u l => rw [hl] at hra; exact hra.elim
    refine (h (fun _ => none) w rargs hra0 WF.empty rel0 (fun _ _ _ => rfl)).mono ?_
    rintro e w' ⟨v', μ', rfl, hv, p⟩
    have hk : ∀ k, k < w.heap.size → w'.heap[k]? = w.heap[k]? := fun k hk => p.keep k hk fun _ _ _ h => by simp at h
    refine ⟨v', μ, rfl, hv, ⟨wf, ⟨fun b r s h => Nat.lt_of_lt_of_le (rel.dom b r s h) p.wsize, fun b r s o h ho => ?_, rel.sep, rel.clos⟩, Nat.le_refl _, fun _ _ => rfl, fun b r s h1 h2 _ => by omega, fun b o h => ⟨o, h, sameKind.refl o⟩, fun b o _ h => ⟨o, h, sameKind.refl o⟩, fun _ _ _ => rfl, fun b h1 h2 => by omega, p.os, p.tape, p.output, p.wsize, fun k hk' _ => hk k hk', p.shapes⟩⟩
    rw [hk r (rel.dom b r s h)]
    exact (rel.obj b r s o h ho).mono (fun _ _ h => h) p.shapes
  · exact absurd hlt (Nat.not_lt.2 h)
end Go.AI
end
