/- For all formulas of bulk at most the given one, CheckBool and Build return what is specified: the law answers true, and the formula reads behind the call as it read before. Conditions: the given ones alone. -/
import Derived.Test.YtanaaabejeeakaaA6
set_option linter.unusedVariables false
set_option linter.unusedSimpArgs false
namespace Go.Proofs.Ytanaaabejeeakaa.boolBuild
open Go.ChangeShapes Go.WideShapes Go.ChangeAt Go.RowKit Go.AI
set_option linter.unusedVariables false

theorem main {D : Type} {d : DataW D} (hk : Rows.uptoBulkAll [d] ≤ 1048576) (H : AHeap) (avs : List AV) (hg : GoodArgs Try.prog H [24] avs [d]) : ∃ H', callE Try.prog 3 avs H = some (.one (.bool true), H') := by
  cases avs with
  | nil => exact hg.elim
  | cons a avs =>
    obtain ⟨⟨n, cs, hgood, ha⟩, hrest⟩ := hg
    cases avs with
    | cons _ _ => exact hrest.elim
    | nil =>
      obtain ⟨op, var, s, f, rfl, hf, hsz⟩ := good_fm n cs d hgood
      simp only [Rows.uptoBulkAll] at hk
      obtain ⟨v, H', hrun, xs, hv, hq⟩ := law1_c (by omega) hf
      have hav : avOf Try.prog 24 [.int .i64 op, .int .i64 var, s] = .agg [.int .i64 op, .int .i64 var, s] := by simp only [avOf, Try.underlying24]
      rw [ha, hav]
      refine ⟨H', ?_⟩
      have hx : xs.1 = true := hq.1
      have : v = .one (.bool true) := by
        rw [hv, ← hx]
        rfl
      rw [← this]
      exact hrun

set_option maxRecDepth 100000 in
theorem contract (H : Type) (enc : TypeId × Value → H) (W : World) (base : Nat) (args : Array Value) (ds gs : List (DataW H)) (before : List MemPlace)
    (hval : ∀ (j : Nat) t v, Try.f3.params[j]? = some t → args[j]? = some v → Value.okWide Try.prog W .any base t v)
    (hW : DataW.Whole enc Try.prog Try.f3.params.toList Rows.boolBuildMatchesSpecSpec.vars false W args.toList ds gs before) (hk : Rows.uptoSmall H (ds ++ gs) = true) :
    Calls Try.prog 3 args W fun e W' => ∃ v, e = .returned v ∧ Rows.boolBuildMatchesSpecSpec.post enc Try.prog Try.f3 false true false false W args v W' := by
  have hW' := hW
  obtain ⟨p, q, hA0, hV, hbe, hfz, hnd⟩ := hW
  have hA : DataW.TrodAll enc Try.prog W 0 (fun _ => true) true [24] args.toList ds p := hA0
  obtain ⟨v0, vs0, d0, ds0, p0, q0, hargs, rfl, rfl, h0, r0⟩ := trodAll_cons hA
  obtain ⟨rfl, rfl, rfl⟩ := trodAll_nil r0
  obtain ⟨rfl, rfl⟩ := trodVars_none hV
  have hbulk : Rows.uptoBulkAll [d0] ≤ 1048576 := of_decide_eq_true hk
  have hts : ∀ t ∈ [24], t ∈ simpleTs := by simp [simpleTs]
  have hlt : 3 < Try.prog.funcs.size := (Array.getElem?_eq_some_iff.1 Try.func3).1
  have hvl : ∀ (j : Nat) t v, [24][j]? = some t → args[j]? = some v → Value.okWide Try.prog W .any base t v := fun j t v hj hv => by
    refine hval j t v ?_ hv
    rw [Try.params3]
    simpa using hj
  have hcalls := calls_true names_ok mixed simple_ok hlt hts hA hvl fun H0 avs _ _ hg => main hbulk H0 avs hg
  refine hcalls.mono fun e W' hh => ⟨_, hh.1, ?_⟩
  have hread : ∀ t ∈ Try.f3.params.toList, Try.prog.readableRec t = true ∧ t < Try.prog.types.size := by rw [Try.params3]; decide +kernel
  exact post_true hW' rfl rfl rfl Try.underlying4 laid_out hread hh.2 fun pa pv h1 h2 h3 h4 h5 => post_of_below hW' h1 h2 h3 h4 hh.2 h5

set_option maxRecDepth 100000 in
theorem lifted (os : Os) (started : os.Started) (H : Type) (enc : TypeId × Value → H) (F : Stop.Interp) :
    ReturnsInHanded {} Try.checked os 3 .any ((Rows.OpenSpec.upto Rows.boolBuildMatchesSpecSpec).pre6 enc Try.prog Try.f3 Rows.boolBuildMatchesSpecUptoRow.domain false) (((Rows.OpenSpec.upto Rows.boolBuildMatchesSpecSpec).at F).post enc Try.prog Try.f3 false true false false) := by
  refine returnsInHanded_of_cond (C := Try.checked) (s := Rows.OpenSpec.upto Rows.boolBuildMatchesSpecSpec) (k := Rows.uptoSmall) rfl own started (by kernel_rfl) Try.func3
    (OpenSpec.witness (enc := enc) (C := Try.checked) (s := Rows.OpenSpec.upto Rows.boolBuildMatchesSpecSpec) (k := Rows.uptoSmall) rfl false ⟨#[], #[.agg #[.int .i64 0, .int .i64 0, .slice none 0 0]], []⟩ 8 (by kernel_rfl) (by kernel_rfl) (by kernel_rfl)
      (x := ([.agg [.lit (.int .i64 0), .lit (.int .i64 0), .nil]], [], [])) (by kernel_rfl) rfl (by kernel_rfl)) ?_
  intro W base args ds gs before hval hW _ hk _
  exact contract H enc W base args ds gs before hval hW hk

theorem over : Rows.boolBuildMatchesSpecUptoRow.holds Try.pinned (Rows.OpenSpec.upto Rows.boolBuildMatchesSpecSpec) :=
  OpenClaim.holds_of_cond 3 Try.f3 rfl rfl rfl rfl rfl rfl rfl ⟨rfl, rfl, rfl, rfl, rfl⟩ rfl rfl rfl rfl rfl (by kernel_rfl) Try.func3 (by kernel_rfl)
    (of_decide_eq_true (by kernel_rfl)) (by unfold Func.isWrapper; first | (rw [if_pos (by decide +kernel)]; kernel_rfl) | (rw [if_neg (by decide +kernel)]; exact ⟨rfl, rfl⟩))
    (fun os started H enc _ F => lifted os started H enc F)

theorem proved : Rows.BoolBuildMatchesSpecUptoSaid :=
  over
end Go.Proofs.Ytanaaabejeeakaa.boolBuild
