/- For all constraints, numbers and values, CheckConstraint and Satisfies return what is specified: the law answers true, and what came in reads behind the call as it read before. Conditions: the given ones alone. -/
import Derived.Test.YtkpjcnlljdccjaaGreatA17
set_option linter.unusedVariables false
set_option linter.unusedSimpArgs false
namespace Go.Proofs.YtkpjcnlljdccjaaGreat.law5
open Go.ChangeShapes Go.WideShapes Go.ChangeAt Go.RowKit Go.AI
set_option linter.unusedVariables false

theorem main {D : Type} {d0 d1 d2 : DataW D} (H : AHeap) (hw : GW H) (avs : List AV) (hg : GoodArgs Tryz.prog H [44, 3, 28] avs [d0, d1, d2]) : ∃ H', callE Tryz.prog 7 avs H = some (.one (.bool true), H') := by
  obtain ⟨a0, avs0, n0, cs0, rfl, g0, ha0, hg⟩ := gargs_cons hg
  obtain ⟨a1, avs1, n1, cs1, rfl, g1, ha1, hg⟩ := gargs_cons hg
  obtain ⟨a2, avs2, n2, cs2, rfl, g2, ha2, hg⟩ := gargs_cons hg
  obtain rfl := gargs_nil hg
  obtain ⟨c0, sv0, sc0, sn0, st0, rfl, hs0⟩ := good_cn g0
  obtain ⟨i1, rfl, _⟩ := good_i Tryz.underlying3 g1
  obtain ⟨s2, l2, rfl, hs2, hl2⟩ := good_ints g2
  obtain ⟨v, H', hrun, xs, hv, hq⟩ := law5_c (vars := i1) hs0 hs2 hl2 hw
  rw [ha0]
  rw [ha1]
  rw [ha2]
  simp only [avOf, Tryz.underlying28, Tryz.underlying3, Tryz.underlying44, List.headD_cons]
  refine ⟨H', ?_⟩
  have hx : xs.1 = true := hq.1
  have : v = .one (.bool true) := by
    rw [hv, ← hx]
    rfl
  rw [← this]
  exact hrun

set_option maxRecDepth 100000 in
theorem contract (H : Type) (enc : TypeId × Value → H) (W : World) (base : Nat) (args : Array Value) (ds gs : List (DataW H)) (before : List MemPlace)
    (hval : ∀ (j : Nat) t v, Tryz.f7.params[j]? = some t → args[j]? = some v → Value.okWide Tryz.prog W .any base t v)
    (hW : DataW.Whole enc Tryz.prog Tryz.f7.params.toList Rows.domainConstraintMatchesSpecSpec.vars false W args.toList ds gs before) :
    Calls Tryz.prog 7 args W fun e W' => ∃ v, e = .returned v ∧ Rows.domainConstraintMatchesSpecSpec.post enc Tryz.prog Tryz.f7 false true false false W args v W' := by
  have hW' := hW
  obtain ⟨p, q, hA0, hV, hbe, hfz, hnd⟩ := hW
  have hA : DataW.TrodAll enc Tryz.prog W 0 (fun _ => true) true [44, 3, 28] args.toList ds p := hA0
  obtain ⟨v0, vs0, d0, ds0, p0, q0, hargs0, rfl, rfl, h0, r0⟩ := trodAll_cons hA
  obtain ⟨v1, vs1, d1, ds1, p1, q1, hargs1, rfl, rfl, h1, r1⟩ := trodAll_cons r0
  obtain ⟨v2, vs2, d2, ds2, p2, q2, hargs2, rfl, rfl, h2, r2⟩ := trodAll_cons r1
  obtain ⟨hlast, rfl, rfl⟩ := trodAll_nil r2
  obtain ⟨rfl, rfl⟩ := trodVars_none hV
  have hts : ∀ t ∈ [44, 3, 28], t ∈ simpleTs5 := by simp [simpleTs5]
  have hlt : 7 < Tryz.prog.funcs.size := (Array.getElem?_eq_some_iff.1 Tryz.func7).1
  have hvl : ∀ (j : Nat) t v, [44, 3, 28][j]? = some t → args[j]? = some v → Value.okWide Tryz.prog W .any base t v := fun j t v hj hv => by
    refine hval j t v ?_ hv
    rw [Tryz.params7]
    simpa using hj
  have hcalls := calls_true Tryz.base_sound names_ok mixed simple_ok5 hlt hts hA hvl fun H0 avs _ hro hg => main H0 (fun x e g st ro cs hx => by obtain ⟨e1, c1, h1⟩ := hro x _ hx; cases h1; exact Nat.le_refl _) avs hg
  refine hcalls.mono fun e W' hh => ⟨_, hh.1, ?_⟩
  have hread : ∀ t ∈ Tryz.f7.params.toList, Tryz.prog.readableRec t = true ∧ t < Tryz.prog.types.size := by rw [Tryz.params7]; decide +kernel
  exact post_true hW' rfl rfl rfl Tryz.underlying4 laid_out hread hh.2 fun pa pv h1 h2 h3 h4 h5 => post_of_below hW' h1 h2 h3 h4 hh.2 h5

set_option maxRecDepth 100000 in
theorem lifted (os : Os) (started : os.Started) (H : Type) (enc : TypeId × Value → H) :
    ReturnsInHanded {} Tryz.checked os 7 .any (Rows.domainConstraintMatchesSpecSpec.pre6 enc Tryz.prog Tryz.f7 Rows.domainConstraintMatchesSpecRow.domain false) (Rows.domainConstraintMatchesSpecSpec.post enc Tryz.prog Tryz.f7 false true false false) := by
  refine returnsInHanded_of_change (C := Tryz.checked) own started (by kernel_rfl) Tryz.func7
    (ChangeSpec.witness6 (enc := enc) (C := Tryz.checked) false ⟨#[], #[.agg #[.int .i64 0, .slice none 0 0, .slice none 0 0, .slice none 0 0, .int .i64 0, .int .i64 0, .slice none 0 0], .int .i64 0, .slice none 0 0], []⟩ 8 (by kernel_rfl) (by kernel_rfl) (by kernel_rfl) (by kernel_rfl)) ?_
  intro W base args ds gs before hval hW hcnd _
  exact contract H enc W base args ds gs before hval hW

theorem over : Rows.domainConstraintMatchesSpecRow.holds Tryz.pinned (OpenSpec.ofChange Rows.domainConstraintMatchesSpecSpec) :=
  OpenClaim.holds_of_wide 7 Tryz.f7 rfl rfl rfl rfl rfl rfl rfl ⟨rfl, rfl, rfl, rfl, rfl⟩ rfl rfl rfl rfl rfl (by kernel_rfl) Tryz.func7 (by kernel_rfl)
    (of_decide_eq_true (by kernel_rfl)) (by unfold Func.isWrapper; first | (rw [if_pos (by decide +kernel)]; kernel_rfl) | (rw [if_neg (by decide +kernel)]; exact ⟨rfl, rfl⟩))
    (fun os started H enc _ => lifted os started H enc)

theorem proved : Rows.DomainConstraintMatchesSpecSaid :=
  over
end Go.Proofs.YtkpjcnlljdccjaaGreat.law5
