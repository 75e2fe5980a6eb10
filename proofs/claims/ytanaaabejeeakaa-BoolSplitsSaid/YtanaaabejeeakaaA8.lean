/- For all diagrams and all variables, a function is the choice of its two cofactors, and what exists is their disjunction: the law answers true, and what came in reads behind the call as it read before. Conditions: the given ones alone. -/
import Derived.Test.YtanaaabejeeakaaA7
set_option linter.unusedVariables false
set_option linter.unusedSimpArgs false
namespace Go.Proofs.Ytanaaabejeeakaa.law8
open Go.ChangeShapes Go.WideShapes Go.ChangeAt Go.RowKit Go.AI
set_option linter.unusedVariables false

theorem main {D : Type} {d0 d1 : DataW D} (H : AHeap) (hw : GW H) (avs : List AV) (hg : GoodArgs Try.prog H [27, 3] avs [d0, d1]) : ∃ H', callE Try.prog 10 avs H = some (.one (.bool true), H') := by
  obtain ⟨a0, avs0, n0, cs0, rfl, g0, ha0, hg⟩ := gargs_cons hg
  obtain ⟨a1, avs1, n1, cs1, rfl, g1, ha1, hg⟩ := gargs_cons hg
  obtain rfl := gargs_nil hg
  obtain ⟨s0, r0, l0, rfl, hs0⟩ := good_dg n0 cs0 d0 g0
  obtain ⟨i1, rfl, _⟩ := good_int Try.underlying3 g1
  obtain ⟨v, H', hrun, xs, hv, hq⟩ := law8_c (v := i1) hs0 hw
  rw [ha0]
  rw [ha1]
  simp only [avOf, Try.underlying27, Try.underlying3, List.headD_cons]
  refine ⟨H', ?_⟩
  have hx : xs.1 = true := hq.1
  have : v = .one (.bool true) := by
    rw [hv, ← hx]
    rfl
  rw [← this]
  exact hrun

set_option maxRecDepth 100000 in
theorem contract (H : Type) (enc : TypeId × Value → H) (W : World) (base : Nat) (args : Array Value) (ds gs : List (DataW H)) (before : List MemPlace)
    (hval : ∀ (j : Nat) t v, Try.f10.params[j]? = some t → args[j]? = some v → Value.okWide Try.prog W .any base t v)
    (hW : DataW.Whole enc Try.prog Try.f10.params.toList Rows.boolSplitsSpec.vars false W args.toList ds gs before) :
    Calls Try.prog 10 args W fun e W' => ∃ v, e = .returned v ∧ Rows.boolSplitsSpec.post enc Try.prog Try.f10 false true false false W args v W' := by
  have hW' := hW
  obtain ⟨p, q, hA0, hV, hbe, hfz, hnd⟩ := hW
  have hA : DataW.TrodAll enc Try.prog W 0 (fun _ => true) true [27, 3] args.toList ds p := hA0
  obtain ⟨v0, vs0, d0, ds0, p0, q0, hargs0, rfl, rfl, h0, r0⟩ := trodAll_cons hA
  obtain ⟨v1, vs1, d1, ds1, p1, q1, hargs1, rfl, rfl, h1, r1⟩ := trodAll_cons r0
  obtain ⟨hlast, rfl, rfl⟩ := trodAll_nil r1
  obtain ⟨rfl, rfl⟩ := trodVars_none hV
  have hts : ∀ t ∈ [27, 3], t ∈ simpleTs := by simp [simpleTs]
  have hlt : 10 < Try.prog.funcs.size := (Array.getElem?_eq_some_iff.1 Try.func10).1
  have hvl : ∀ (j : Nat) t v, [27, 3][j]? = some t → args[j]? = some v → Value.okWide Try.prog W .any base t v := fun j t v hj hv => by
    refine hval j t v ?_ hv
    rw [Try.params10]
    simpa using hj
  have hcalls := calls_true Try.base_sound names_ok mixed simple_ok hlt hts hA hvl fun H0 avs _ hro hg => main H0 (fun x e g st ro cs hx => by obtain ⟨e1, c1, h1⟩ := hro x _ hx; cases h1; exact Nat.le_refl _) avs hg
  refine hcalls.mono fun e W' hh => ⟨_, hh.1, ?_⟩
  have hread : ∀ t ∈ Try.f10.params.toList, Try.prog.readableRec t = true ∧ t < Try.prog.types.size := by rw [Try.params10]; decide +kernel
  exact post_true hW' rfl rfl rfl Try.underlying4 laid_out hread hh.2 fun pa pv h1 h2 h3 h4 h5 => post_of_below hW' h1 h2 h3 h4 hh.2 h5

set_option maxRecDepth 100000 in
theorem lifted (os : Os) (started : os.Started) (H : Type) (enc : TypeId × Value → H) :
    ReturnsInHanded {} Try.checked os 10 .any (Rows.boolSplitsSpec.pre6 enc Try.prog Try.f10 Rows.boolSplitsRow.domain false) (Rows.boolSplitsSpec.post enc Try.prog Try.f10 false true false false) := by
  refine returnsInHanded_of_change (C := Try.checked) own started (by kernel_rfl) Try.func10
    (ChangeSpec.witness6 (enc := enc) (C := Try.checked) false ⟨#[], #[.agg #[.slice none 0 0, .int .i64 0], .int .i64 0], []⟩ 8 (by kernel_rfl) (by kernel_rfl) (by kernel_rfl) (by kernel_rfl)) ?_
  intro W base args ds gs before hval hW hcnd _
  exact contract H enc W base args ds gs before hval hW

theorem over : Rows.boolSplitsRow.holds Try.pinned (OpenSpec.ofChange Rows.boolSplitsSpec) :=
  OpenClaim.holds_of_wide 10 Try.f10 rfl rfl rfl rfl rfl rfl rfl ⟨rfl, rfl, rfl, rfl, rfl⟩ rfl rfl rfl rfl rfl (by kernel_rfl) Try.func10 (by kernel_rfl)
    (of_decide_eq_true (by kernel_rfl)) (by unfold Func.isWrapper; first | (rw [if_pos (by decide +kernel)]; kernel_rfl) | (rw [if_neg (by decide +kernel)]; exact ⟨rfl, rfl⟩))
    (fun os started H enc _ => lifted os started H enc)

theorem proved : Rows.BoolSplitsSaid :=
  over
end Go.Proofs.Ytanaaabejeeakaa.law8
