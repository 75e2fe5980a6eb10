/- For all diagrams, numbers and lists of variables of bulk at most the given one, Restrict and Exists return what is specified: the law answers true, and what came in reads behind the call as it read before. Conditions: the given ones alone. -/
import Derived.Test.YtanaaabejeeakaaA7
set_option linter.unusedVariables false
set_option linter.unusedSimpArgs false
namespace Go.Proofs.Ytanaaabejeeakaa.law7
open Go.ChangeShapes Go.WideShapes Go.ChangeAt Go.RowKit Go.AI
set_option linter.unusedVariables false

theorem main {D : Type} {d0 d1 d2 d3 : DataW D} (hk : Rows.uptoBulkAll [d0, d1, d2, d3] ≤ 1048576) (H : AHeap) (hw : GW H) (avs : List AV) (hg : GoodArgs Try.prog H [27, 3, 3, 53] avs [d0, d1, d2, d3]) : ∃ H', callE Try.prog 9 avs H = some (.one (.bool true), H') := by
  obtain ⟨a0, avs0, n0, cs0, rfl, g0, ha0, hg⟩ := gargs_cons hg
  obtain ⟨a1, avs1, n1, cs1, rfl, g1, ha1, hg⟩ := gargs_cons hg
  obtain ⟨a2, avs2, n2, cs2, rfl, g2, ha2, hg⟩ := gargs_cons hg
  obtain ⟨a3, avs3, n3, cs3, rfl, g3, ha3, hg⟩ := gargs_cons hg
  obtain rfl := gargs_nil hg
  obtain ⟨s0, r0, l0, rfl, hs0⟩ := good_dg n0 cs0 d0 g0
  obtain ⟨i1, rfl, _⟩ := good_int Try.underlying3 g1
  obtain ⟨i2, rfl, _⟩ := good_int Try.underlying3 g2
  obtain ⟨s3, l3, rfl, hs3, hl3⟩ := good_ints g3
  simp only [Rows.uptoBulkAll] at hk
  obtain ⟨v, H', hrun, xs, hv, hq⟩ := law7_c (v := i1) (bit := i2) hs0 hs3 hw (by omega)
  rw [ha0]
  rw [ha1]
  rw [ha2]
  rw [ha3]
  simp only [avOf, Try.underlying27, Try.underlying3, Try.underlying53, List.headD_cons]
  refine ⟨H', ?_⟩
  have hx : xs.1 = true := hq.1
  have : v = .one (.bool true) := by
    rw [hv, ← hx]
    rfl
  rw [← this]
  exact hrun

set_option maxRecDepth 100000 in
theorem contract (H : Type) (enc : TypeId × Value → H) (W : World) (base : Nat) (args : Array Value) (ds gs : List (DataW H)) (before : List MemPlace)
    (hval : ∀ (j : Nat) t v, Try.f9.params[j]? = some t → args[j]? = some v → Value.okWide Try.prog W .any base t v)
    (hW : DataW.Whole enc Try.prog Try.f9.params.toList Rows.boolRestrictMatchesSpecSpec.vars false W args.toList ds gs before) (hk : Rows.uptoSmall H (ds ++ gs) = true) :
    Calls Try.prog 9 args W fun e W' => ∃ v, e = .returned v ∧ Rows.boolRestrictMatchesSpecSpec.post enc Try.prog Try.f9 false true false false W args v W' := by
  have hW' := hW
  obtain ⟨p, q, hA0, hV, hbe, hfz, hnd⟩ := hW
  have hA : DataW.TrodAll enc Try.prog W 0 (fun _ => true) true [27, 3, 3, 53] args.toList ds p := hA0
  obtain ⟨v0, vs0, d0, ds0, p0, q0, hargs0, rfl, rfl, h0, r0⟩ := trodAll_cons hA
  obtain ⟨v1, vs1, d1, ds1, p1, q1, hargs1, rfl, rfl, h1, r1⟩ := trodAll_cons r0
  obtain ⟨v2, vs2, d2, ds2, p2, q2, hargs2, rfl, rfl, h2, r2⟩ := trodAll_cons r1
  obtain ⟨v3, vs3, d3, ds3, p3, q3, hargs3, rfl, rfl, h3, r3⟩ := trodAll_cons r2
  obtain ⟨hlast, rfl, rfl⟩ := trodAll_nil r3
  obtain ⟨rfl, rfl⟩ := trodVars_none hV
  have hbulk : Rows.uptoBulkAll [d0, d1, d2, d3] ≤ 1048576 := of_decide_eq_true hk
  have hts : ∀ t ∈ [27, 3, 3, 53], t ∈ simpleTs7 := by simp [simpleTs7]
  have hlt : 9 < Try.prog.funcs.size := (Array.getElem?_eq_some_iff.1 Try.func9).1
  have hvl : ∀ (j : Nat) t v, [27, 3, 3, 53][j]? = some t → args[j]? = some v → Value.okWide Try.prog W .any base t v := fun j t v hj hv => by
    refine hval j t v ?_ hv
    rw [Try.params9]
    simpa using hj
  have hcalls := calls_true Try.base_sound names_ok mixed simple_ok7 hlt hts hA hvl fun H0 avs _ hro hg => main hbulk H0 (fun x e g st ro cs hx => by obtain ⟨e1, c1, h1⟩ := hro x _ hx; cases h1; exact Nat.le_refl _) avs hg
  refine hcalls.mono fun e W' hh => ⟨_, hh.1, ?_⟩
  have hread : ∀ t ∈ Try.f9.params.toList, Try.prog.readableRec t = true ∧ t < Try.prog.types.size := by rw [Try.params9]; decide +kernel
  exact post_true hW' rfl rfl rfl Try.underlying4 laid_out hread hh.2 fun pa pv h1 h2 h3 h4 h5 => post_of_below hW' h1 h2 h3 h4 hh.2 h5

set_option maxRecDepth 100000 in
theorem lifted (os : Os) (started : os.Started) (H : Type) (enc : TypeId × Value → H) (F : Stop.Interp) :
    ReturnsInHanded {} Try.checked os 9 .any ((Rows.OpenSpec.upto Rows.boolRestrictMatchesSpecSpec).pre6 enc Try.prog Try.f9 Rows.boolRestrictMatchesSpecUptoRow.domain false) (((Rows.OpenSpec.upto Rows.boolRestrictMatchesSpecSpec).at F).post enc Try.prog Try.f9 false true false false) := by
  refine returnsInHanded_of_cond (C := Try.checked) (s := Rows.OpenSpec.upto Rows.boolRestrictMatchesSpecSpec) (k := Rows.uptoSmall) rfl own started (by kernel_rfl) Try.func9
    (OpenSpec.witness (enc := enc) (C := Try.checked) (s := Rows.OpenSpec.upto Rows.boolRestrictMatchesSpecSpec) (k := Rows.uptoSmall) rfl false ⟨#[], #[.agg #[.slice none 0 0, .int .i64 0], .int .i64 0, .int .i64 0, .slice none 0 0], []⟩ 8 (by kernel_rfl) (by kernel_rfl) (by kernel_rfl)
      (x := ([.agg [.nil, .lit (.int .i64 0)], .lit (.int .i64 0), .lit (.int .i64 0), .nil], [], [])) (by kernel_rfl) rfl (by kernel_rfl)) ?_
  intro W base args ds gs before hval hW _ hk _
  exact contract H enc W base args ds gs before hval hW hk

theorem over : Rows.boolRestrictMatchesSpecUptoRow.holds Try.pinned (Rows.OpenSpec.upto Rows.boolRestrictMatchesSpecSpec) :=
  OpenClaim.holds_of_cond 9 Try.f9 rfl rfl rfl rfl rfl rfl rfl ⟨rfl, rfl, rfl, rfl, rfl⟩ rfl rfl rfl rfl rfl (by kernel_rfl) Try.func9 (by kernel_rfl)
    (of_decide_eq_true (by kernel_rfl)) (by unfold Func.isWrapper; first | (rw [if_pos (by decide +kernel)]; kernel_rfl) | (rw [if_neg (by decide +kernel)]; exact ⟨rfl, rfl⟩))
    (fun os started H enc _ F => lifted os started H enc F)

theorem proved : Rows.BoolRestrictMatchesSpecUptoSaid :=
  over
end Go.Proofs.Ytanaaabejeeakaa.law7
