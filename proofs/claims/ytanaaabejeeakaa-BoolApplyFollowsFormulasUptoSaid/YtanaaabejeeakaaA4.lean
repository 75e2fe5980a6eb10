/- Joined by a program: what the proof of the law leans on, part 4. -/
import Derived.Test.YtanaaabejeeakaaA3
import Derived.Test.YtanaaabejeeakaaChecked
set_option linter.unusedVariables false
set_option linter.unusedSimpArgs false
section
/- Printed by a program: the calls of the functions, with types. -/
namespace Go.Proofs.Ytanaaabejeeakaa
open Go.AI
set_option maxRecDepth 100000
set_option maxHeartbeats 2000000
set_option linter.unusedVariables false
def aggs : List (TypeId × Nat) := [(77, 3), (115, 3)]
theorem cv_a2 {P : Program} {K : AV → AHeap → Prop} {H : AHeap} {g : FuncId} {args : List AV} {g0 : Bool} {c0 c1 : CT} {q : AHeap → Cur [c0, c1]} (h : ∀ H' (x0 : c0.T) (x1 : c1.T), q H' x0 x1 → K (joinR [(g0, [c0.cell x0, c1.cell x1])]) H') : RunT P [(g0, [c0, c1])] g args H q → Run P g args H K := m_call h
theorem cv_a2_o1 {P : Program} {K : AV → AHeap → Prop} {H : AHeap} {g : FuncId} {args : List AV} {g0 g1 : Bool} {c0 c1 c2 : CT} {q : AHeap → Cur [c0, c1, c2]} (h : ∀ H' (x0 : c0.T) (x1 : c1.T) (x2 : c2.T), q H' x0 x1 x2 → K (joinR [(g0, [c0.cell x0, c1.cell x1]), (g1, [c2.cell x2])]) H') : RunT P [(g0, [c0, c1]), (g1, [c2])] g args H q → Run P g args H K := m_call h
theorem cv_a3 {P : Program} {K : AV → AHeap → Prop} {H : AHeap} {g : FuncId} {args : List AV} {g0 : Bool} {c0 c1 c2 : CT} {q : AHeap → Cur [c0, c1, c2]} (h : ∀ H' (x0 : c0.T) (x1 : c1.T) (x2 : c2.T), q H' x0 x1 x2 → K (joinR [(g0, [c0.cell x0, c1.cell x1, c2.cell x2])]) H') : RunT P [(g0, [c0, c1, c2])] g args H q → Run P g args H K := m_call h
theorem cv_a3_o1 {P : Program} {K : AV → AHeap → Prop} {H : AHeap} {g : FuncId} {args : List AV} {g0 g1 : Bool} {c0 c1 c2 c3 : CT} {q : AHeap → Cur [c0, c1, c2, c3]} (h : ∀ H' (x0 : c0.T) (x1 : c1.T) (x2 : c2.T) (x3 : c3.T), q H' x0 x1 x2 x3 → K (joinR [(g0, [c0.cell x0, c1.cell x1, c2.cell x2]), (g1, [c3.cell x3])]) H') : RunT P [(g0, [c0, c1, c2]), (g1, [c3])] g args H q → Run P g args H K := m_call h
theorem cv_o1_o1 {P : Program} {K : AV → AHeap → Prop} {H : AHeap} {g : FuncId} {args : List AV} {g0 g1 : Bool} {c0 c1 : CT} {q : AHeap → Cur [c0, c1]} (h : ∀ H' (x0 : c0.T) (x1 : c1.T), q H' x0 x1 → K (joinR [(g0, [c0.cell x0]), (g1, [c1.cell x1])]) H') : RunT P [(g0, [c0]), (g1, [c1])] g args H q → Run P g args H K := m_call h
def Fn.gosem_cut_init (H : AHeap) (Q : AHeap → Prop) : Prop := RunT Try.prog [] 2 [] H Q
def Fn.fetterlocklaw6_BoolBuildMatchesSpec (a0_0 : Int) (a0_1 : Int) (a0_2 : AC) (H : AHeap) (Q : AHeap → Bool → Prop) : Prop := RunT Try.prog [(false, [.bool])] 3 [(.agg [(.int .i64 a0_0), (.int .i64 a0_1), a0_2])] H Q
def Fn.fetterlocklaw6_BoolApplyFollowsFormulas (a0 : Int) (a1_0 : Int) (a1_1 : Int) (a1_2 : AC) (a2_0 : Int) (a2_1 : Int) (a2_2 : AC) (H : AHeap) (Q : AHeap → Bool → Prop) : Prop := RunT Try.prog [(false, [.bool])] 4 [(.one (.int .i64 a0)), (.agg [(.int .i64 a1_0), (.int .i64 a1_1), a1_2]), (.agg [(.int .i64 a2_0), (.int .i64 a2_1), a2_2])] H Q
def Fn.fetterlocklaw6_BoolApplyMatchesSpec (a0 : Int) (a1_0 : AC) (a1_1 : Int) (a2_0 : AC) (a2_1 : Int) (H : AHeap) (Q : AHeap → Bool → Prop) : Prop := RunT Try.prog [(false, [.bool])] 5 [(.one (.int .i64 a0)), (.agg [a1_0, (.int .i64 a1_1)]), (.agg [a2_0, (.int .i64 a2_1)])] H Q
def Fn.fetterlocklaw6_BoolModelsMatchSpec (a0_0 : AC) (a0_1 : Int) (a1 : Int) (a2 : Int) (H : AHeap) (Q : AHeap → Bool → Prop) : Prop := RunT Try.prog [(false, [.bool])] 6 [(.agg [a0_0, (.int .i64 a0_1)]), (.one (.int .i64 a1)), (.one (.int .i64 a2))] H Q
def Fn.fetterlocklaw6_BoolCountsAddUp (a0_0 : AC) (a0_1 : Int) (a1 : Int) (H : AHeap) (Q : AHeap → Bool → Prop) : Prop := RunT Try.prog [(false, [.bool])] 7 [(.agg [a0_0, (.int .i64 a0_1)]), (.one (.int .i64 a1))] H Q
def Fn.fetterlocklaw6_BoolCheckMatchesSpec (a0_0 : AC) (a0_1 : Int) (H : AHeap) (Q : AHeap → Bool → Prop) : Prop := RunT Try.prog [(false, [.bool])] 8 [(.agg [a0_0, (.int .i64 a0_1)])] H Q
def Fn.fetterlocklaw6_BoolRestrictMatchesSpec (a0_0 : AC) (a0_1 : Int) (a1 : Int) (a2 : Int) (a3 : AC) (H : AHeap) (Q : AHeap → Bool → Prop) : Prop := RunT Try.prog [(false, [.bool])] 9 [(.agg [a0_0, (.int .i64 a0_1)]), (.one (.int .i64 a1)), (.one (.int .i64 a2)), (.one a3)] H Q
def Fn.fetterlocklaw6_BoolSplits (a0_0 : AC) (a0_1 : Int) (a1 : Int) (H : AHeap) (Q : AHeap → Bool → Prop) : Prop := RunT Try.prog [(false, [.bool])] 10 [(.agg [a0_0, (.int .i64 a0_1)]), (.one (.int .i64 a1))] H Q
def Fn.fetterlocklaw6_BoolImplicatesMatchSpec (a0_0 : AC) (a0_1 : Int) (H : AHeap) (Q : AHeap → Bool → Prop) : Prop := RunT Try.prog [(false, [.bool])] 11 [(.agg [a0_0, (.int .i64 a0_1)])] H Q
def Fn.fetterlocklaw6_BoolImplicatesMeanTheFunction (a0_0 : AC) (a0_1 : Int) (H : AHeap) (Q : AHeap → Bool → Prop) : Prop := RunT Try.prog [(false, [.bool])] 12 [(.agg [a0_0, (.int .i64 a0_1)])] H Q
def Fn.solve_Build (a0_0 : Int) (a0_1 : Int) (a0_2 : AC) (H : AHeap) (Q : AHeap → AC → Int → Int → Prop) : Prop := RunT Try.prog [(true, [.ac, .int .i64]), (false, [.int .i64])] 13 [(.agg [(.int .i64 a0_0), (.int .i64 a0_1), a0_2])] H Q
def Fn.fetterlockref6_BoolFault (a0_0 : Int) (a0_1 : Int) (a0_2 : AC) (H : AHeap) (Q : AHeap → Int → Prop) : Prop := RunT Try.prog [(false, [.int .i64])] 14 [(.agg [(.int .i64 a0_0), (.int .i64 a0_1), a0_2])] H Q
def Fn.solve_CheckBool (a0_0 : Int) (a0_1 : Int) (a0_2 : AC) (H : AHeap) (Q : AHeap → Int → Prop) : Prop := RunT Try.prog [(false, [.int .i64])] 15 [(.agg [(.int .i64 a0_0), (.int .i64 a0_1), a0_2])] H Q
def Fn.fetterlockref6_OfTable (a0 : AC) (H : AHeap) (Q : AHeap → AC → Int → Int → Prop) : Prop := RunT Try.prog [(true, [.ac, .int .i64]), (false, [.int .i64])] 16 [(.one a0)] H Q
def Fn.fetterlockref6_FormulaTable (a0_0 : Int) (a0_1 : Int) (a0_2 : AC) (H : AHeap) (Q : AHeap → AC → Prop) : Prop := RunT Try.prog [(false, [.ac])] 17 [(.agg [(.int .i64 a0_0), (.int .i64 a0_1), a0_2])] H Q
def Fn.fetterlockref6_SameDiagram (a0_0 : AC) (a0_1 : Int) (a1_0 : AC) (a1_1 : Int) (H : AHeap) (Q : AHeap → Bool → Prop) : Prop := RunT Try.prog [(false, [.bool])] 18 [(.agg [a0_0, (.int .i64 a0_1)]), (.agg [a1_0, (.int .i64 a1_1)])] H Q
def Fn.fetterlocklaw6_built (H : AHeap) (Q : AHeap → Bool → Prop) : Prop := RunT Try.prog [(false, [.bool])] 19 [] H Q
def Fn.solve_Apply (a0 : Int) (a1_0 : AC) (a1_1 : Int) (a2_0 : AC) (a2_1 : Int) (H : AHeap) (Q : AHeap → AC → Int → Int → Prop) : Prop := RunT Try.prog [(true, [.ac, .int .i64]), (false, [.int .i64])] 20 [(.one (.int .i64 a0)), (.agg [a1_0, (.int .i64 a1_1)]), (.agg [a2_0, (.int .i64 a2_1)])] H Q
def Fn.fetterlockref6_Applied (a0 : Int) (a1_0 : AC) (a1_1 : Int) (a2_0 : AC) (a2_1 : Int) (H : AHeap) (Q : AHeap → AC → Int → Int → Prop) : Prop := RunT Try.prog [(true, [.ac, .int .i64]), (false, [.int .i64])] 21 [(.one (.int .i64 a0)), (.agg [a1_0, (.int .i64 a1_1)]), (.agg [a2_0, (.int .i64 a2_1)])] H Q
def Fn.solve_Not (a0_0 : AC) (a0_1 : Int) (H : AHeap) (Q : AHeap → AC → Int → Int → Prop) : Prop := RunT Try.prog [(true, [.ac, .int .i64]), (false, [.int .i64])] 22 [(.agg [a0_0, (.int .i64 a0_1)])] H Q
def Fn.fetterlockref6_Negated (a0_0 : AC) (a0_1 : Int) (H : AHeap) (Q : AHeap → AC → Int → Int → Prop) : Prop := RunT Try.prog [(true, [.ac, .int .i64]), (false, [.int .i64])] 23 [(.agg [a0_0, (.int .i64 a0_1)])] H Q
def Fn.solve_Count (a0_0 : AC) (a0_1 : Int) (a1 : Int) (H : AHeap) (Q : AHeap → Int → Int → Prop) : Prop := RunT Try.prog [(false, [.int .i64]), (false, [.int .i64])] 24 [(.agg [a0_0, (.int .i64 a0_1)]), (.one (.int .i64 a1))] H Q
def Fn.solve_Models (a0_0 : AC) (a0_1 : Int) (a1 : Int) (a2 : Int) (H : AHeap) (Q : AHeap → AC → Int → Prop) : Prop := RunT Try.prog [(false, [.ac]), (false, [.int .i64])] 25 [(.agg [a0_0, (.int .i64 a0_1)]), (.one (.int .i64 a1)), (.one (.int .i64 a2))] H Q
def Fn.fetterlockref6_CountFault (a0_0 : AC) (a0_1 : Int) (a1 : Int) (H : AHeap) (Q : AHeap → Int → Prop) : Prop := RunT Try.prog [(false, [.int .i64])] 26 [(.agg [a0_0, (.int .i64 a0_1)]), (.one (.int .i64 a1))] H Q
def Fn.fetterlockref6_Models (a0_0 : AC) (a0_1 : Int) (a1 : Int) (a2 : Int) (H : AHeap) (Q : AHeap → AC → Prop) : Prop := RunT Try.prog [(false, [.ac])] 27 [(.agg [a0_0, (.int .i64 a0_1)]), (.one (.int .i64 a1)), (.one (.int .i64 a2))] H Q
def Fn.fetterlocklaw6_sameLists (a0 : AC) (a1 : AC) (H : AHeap) (Q : AHeap → Bool → Prop) : Prop := RunT Try.prog [(false, [.bool])] 28 [(.one a0), (.one a1)] H Q
def Fn.fetterlockref6_DiagramFault (a0_0 : AC) (a0_1 : Int) (H : AHeap) (Q : AHeap → Int → Prop) : Prop := RunT Try.prog [(false, [.int .i64])] 29 [(.agg [a0_0, (.int .i64 a0_1)])] H Q
def Fn.solve_Support (a0_0 : AC) (a0_1 : Int) (H : AHeap) (Q : AHeap → AC → Int → Prop) : Prop := RunT Try.prog [(false, [.ac]), (false, [.int .i64])] 30 [(.agg [a0_0, (.int .i64 a0_1)])] H Q
def Fn.solve_CheckDiagram (a0_0 : AC) (a0_1 : Int) (H : AHeap) (Q : AHeap → Int → Prop) : Prop := RunT Try.prog [(false, [.int .i64])] 31 [(.agg [a0_0, (.int .i64 a0_1)])] H Q
def Fn.fetterlocklaw6_sameInts (a0 : AC) (a1 : AC) (H : AHeap) (Q : AHeap → Bool → Prop) : Prop := RunT Try.prog [(false, [.bool])] 32 [(.one a0), (.one a1)] H Q
def Fn.fetterlockref6_Supports (a0_0 : AC) (a0_1 : Int) (H : AHeap) (Q : AHeap → AC → Prop) : Prop := RunT Try.prog [(false, [.ac])] 33 [(.agg [a0_0, (.int .i64 a0_1)])] H Q
def Fn.solve_Restrict (a0_0 : AC) (a0_1 : Int) (a1 : Int) (a2 : Int) (H : AHeap) (Q : AHeap → AC → Int → Int → Prop) : Prop := RunT Try.prog [(true, [.ac, .int .i64]), (false, [.int .i64])] 34 [(.agg [a0_0, (.int .i64 a0_1)]), (.one (.int .i64 a1)), (.one (.int .i64 a2))] H Q
def Fn.fetterlockref6_Restricted (a0_0 : AC) (a0_1 : Int) (a1 : Int) (a2 : Int) (H : AHeap) (Q : AHeap → AC → Int → Int → Prop) : Prop := RunT Try.prog [(true, [.ac, .int .i64]), (false, [.int .i64])] 35 [(.agg [a0_0, (.int .i64 a0_1)]), (.one (.int .i64 a1)), (.one (.int .i64 a2))] H Q
def Fn.solve_Exists (a0_0 : AC) (a0_1 : Int) (a1 : AC) (H : AHeap) (Q : AHeap → AC → Int → Int → Prop) : Prop := RunT Try.prog [(true, [.ac, .int .i64]), (false, [.int .i64])] 36 [(.agg [a0_0, (.int .i64 a0_1)]), (.one a1)] H Q
def Fn.fetterlockref6_Existing (a0_0 : AC) (a0_1 : Int) (a1 : AC) (H : AHeap) (Q : AHeap → AC → Int → Int → Prop) : Prop := RunT Try.prog [(true, [.ac, .int .i64]), (false, [.int .i64])] 37 [(.agg [a0_0, (.int .i64 a0_1)]), (.one a1)] H Q
def Fn.solve_Implicates (a0_0 : AC) (a0_1 : Int) (H : AHeap) (Q : AHeap → AC → Int → Prop) : Prop := RunT Try.prog [(false, [.ac]), (false, [.int .i64])] 38 [(.agg [a0_0, (.int .i64 a0_1)])] H Q
def Fn.solve_newManager (H : AHeap) (Q : AHeap → AC → Prop) : Prop := RunT Try.prog [(false, [.ac])] 41 [] H Q
def Fn.solve_manager_result (a0 : AC) (a1 : Int) (H : AHeap) (Q : AHeap → AC → Int → Int → Prop) : Prop := RunT Try.prog [(true, [.ac, .int .i64]), (false, [.int .i64])] 42 [(.one a0), (.one (.int .i64 a1))] H Q
def Fn.solve_manager_build (a0 : AC) (a1_0 : Int) (a1_1 : Int) (a1_2 : AC) (H : AHeap) (Q : AHeap → Int → Prop) : Prop := RunT Try.prog [(false, [.int .i64])] 43 [(.one a0), (.agg [(.int .i64 a1_0), (.int .i64 a1_1), a1_2])] H Q
def Fn.fetterlockref6_nodes (a0_0 : Int) (a0_1 : Int) (a0_2 : AC) (H : AHeap) (Q : AHeap → Int → Prop) : Prop := RunT Try.prog [(false, [.int .i64])] 44 [(.agg [(.int .i64 a0_0), (.int .i64 a0_1), a0_2])] H Q
def Fn.fetterlockref6_formulaFault (a0_0 : Int) (a0_1 : Int) (a0_2 : AC) (H : AHeap) (Q : AHeap → Int → Prop) : Prop := RunT Try.prog [(false, [.int .i64])] 45 [(.agg [(.int .i64 a0_0), (.int .i64 a0_1), a0_2])] H Q
def Fn.solve_nodes (a0_0 : Int) (a0_1 : Int) (a0_2 : AC) (a1 : Int) (H : AHeap) (Q : AHeap → Int → Prop) : Prop := RunT Try.prog [(false, [.int .i64])] 46 [(.agg [(.int .i64 a0_0), (.int .i64 a0_1), a0_2]), (.one (.int .i64 a1))] H Q
def Fn.solve_boolFault (a0_0 : Int) (a0_1 : Int) (a0_2 : AC) (H : AHeap) (Q : AHeap → Int → Prop) : Prop := RunT Try.prog [(false, [.int .i64])] 47 [(.agg [(.int .i64 a0_0), (.int .i64 a0_1), a0_2])] H Q
def Fn.fetterlockref6_walk (a0_0 : AC) (a0_1 : AC) (a0_2 : Bool) (a1 : AC) (a2 : Int) (H : AHeap) (Q : AHeap → AC → AC → Bool → Int → Prop) : Prop := RunT Try.prog [(true, [.ac, .ac, .bool]), (false, [.int .i64])] 48 [(.agg [a0_0, a0_1, (.bool a0_2)]), (.one a1), (.one (.int .i64 a2))] H Q
def Fn.fetterlockref6_True (a0_0 : Int) (a0_1 : Int) (a0_2 : AC) (a1 : Int) (H : AHeap) (Q : AHeap → Bool → Prop) : Prop := RunT Try.prog [(false, [.bool])] 49 [(.agg [(.int .i64 a0_0), (.int .i64 a0_1), a0_2]), (.one (.int .i64 a1))] H Q
def Fn.fetterlockref6_turned (a0 : Int) (H : AHeap) (Q : AHeap → Int → Prop) : Prop := RunT Try.prog [(false, [.int .i64])] 50 [(.one (.int .i64 a0))] H Q
def Fn.solve_manager_add (a0 : AC) (a1_0 : AC) (a1_1 : Int) (H : AHeap) (Q : AHeap → Int → Prop) : Prop := RunT Try.prog [(false, [.int .i64])] 51 [(.one a0), (.agg [a1_0, (.int .i64 a1_1)])] H Q
def Fn.solve_manager_and (a0 : AC) (a1 : Int) (a2 : Int) (H : AHeap) (Q : AHeap → Int → Prop) : Prop := RunT Try.prog [(false, [.int .i64])] 52 [(.one a0), (.one (.int .i64 a1)), (.one (.int .i64 a2))] H Q
def Fn.solve_manager_or (a0 : AC) (a1 : Int) (a2 : Int) (H : AHeap) (Q : AHeap → Int → Prop) : Prop := RunT Try.prog [(false, [.int .i64])] 53 [(.one a0), (.one (.int .i64 a1)), (.one (.int .i64 a2))] H Q
def Fn.solve_manager_xor (a0 : AC) (a1 : Int) (a2 : Int) (H : AHeap) (Q : AHeap → Int → Prop) : Prop := RunT Try.prog [(false, [.int .i64])] 54 [(.one a0), (.one (.int .i64 a1)), (.one (.int .i64 a2))] H Q
def Fn.fetterlockref6_DiagramTable (a0_0 : AC) (a0_1 : Int) (H : AHeap) (Q : AHeap → AC → Prop) : Prop := RunT Try.prog [(false, [.ac])] 55 [(.agg [a0_0, (.int .i64 a0_1)])] H Q
def Fn.solve_manager_not (a0 : AC) (a1 : Int) (H : AHeap) (Q : AHeap → Int → Prop) : Prop := RunT Try.prog [(false, [.int .i64])] 56 [(.one a0), (.one (.int .i64 a1))] H Q
def Fn.solve_varsFault (a0_0 : AC) (a0_1 : Int) (a1 : Int) (H : AHeap) (Q : AHeap → Int → Prop) : Prop := RunT Try.prog [(false, [.int .i64])] 57 [(.agg [a0_0, (.int .i64 a0_1)]), (.one (.int .i64 a1))] H Q
def Fn.solve_Count_1 (a0 : Int) (a1 : Int) (a2 : AC) (a3 : AC) (a4 : AC) (H : AHeap) (Q : AHeap → Int → Prop) : Prop := RunT Try.prog [(false, [.int .i64])] 58 [(.one (.int .i64 a0)), (.one (.int .i64 a1)), (.one a2), (.one a3), (.one a4)] H Q
def Fn.solve_Models_1 (a0 : Int) (a1 : Int) (a2 : AC) (a3 : AC) (a4 : AC) (a5 : AC) (a6 : AC) (a7 : AC) (H : AHeap) (Q : AHeap → Prop) : Prop := RunT Try.prog [] 59 [(.one (.int .i64 a0)), (.one (.int .i64 a1)), (.one a2), (.one a3), (.one a4), (.one a5), (.one a6), (.one a7)] H Q
def Fn.slices_Clone_int_int (a0 : AC) (H : AHeap) (Q : AHeap → AC → Prop) : Prop := RunT Try.prog [(false, [.ac])] 60 [(.one a0)] H Q
def Fn.fetterlockref6_numbered (a0_0 : AC) (a0_1 : Int) (a1 : Int) (a2 : AC) (H : AHeap) (Q : AHeap → AC → Prop) : Prop := RunT Try.prog [(false, [.ac])] 61 [(.agg [a0_0, (.int .i64 a0_1)]), (.one (.int .i64 a1)), (.one a2)] H Q
def Fn.solve_support (a0_0 : AC) (a0_1 : Int) (H : AHeap) (Q : AHeap → AC → Prop) : Prop := RunT Try.prog [(false, [.ac])] 62 [(.agg [a0_0, (.int .i64 a0_1)])] H Q
def Fn.solve_manager_diagram (a0 : AC) (a1 : Int) (H : AHeap) (Q : AHeap → AC → Int → Prop) : Prop := RunT Try.prog [(true, [.ac, .int .i64])] 63 [(.one a0), (.one (.int .i64 a1))] H Q
def Fn.slices_Equal_fetterlock_api_Node_fetterlock_api_Node (a0 : AC) (a1 : AC) (H : AHeap) (Q : AHeap → Bool → Prop) : Prop := RunT Try.prog [(false, [.bool])] 64 [(.one a0), (.one a1)] H Q
def Fn.solve_isVar (a0 : Int) (H : AHeap) (Q : AHeap → Bool → Prop) : Prop := RunT Try.prog [(false, [.bool])] 65 [(.one (.int .i64 a0))] H Q
def Fn.solve_manager_fixed (a0 : AC) (a1 : Int) (a2 : Int) (a3 : Int) (H : AHeap) (Q : AHeap → Int → Prop) : Prop := RunT Try.prog [(false, [.int .i64])] 66 [(.one a0), (.one (.int .i64 a1)), (.one (.int .i64 a2)), (.one (.int .i64 a3))] H Q
def Fn.slices_ContainsFunc_int_int (a0 : AC) (a1 : AC) (H : AHeap) (Q : AHeap → Bool → Prop) : Prop := RunT Try.prog [(false, [.bool])] 67 [(.one a0), (.one a1)] H Q
def Fn.solve_Exists_1 (a0 : Int) (H : AHeap) (Q : AHeap → Bool → Prop) : Prop := RunT Try.prog [(false, [.bool])] 68 [(.one (.int .i64 a0))] H Q
def Fn.slices_Compact_int_int (a0 : AC) (H : AHeap) (Q : AHeap → AC → Prop) : Prop := RunT Try.prog [(false, [.ac])] 69 [(.one a0)] H Q
def Fn.slices_Sorted_int (a0 : AC) (H : AHeap) (Q : AHeap → AC → Prop) : Prop := RunT Try.prog [(false, [.ac])] 70 [(.one a0)] H Q
def Fn.slices_Values_int_int (a0 : AC) (H : AHeap) (Q : AHeap → AC → Prop) : Prop := RunT Try.prog [(false, [.ac])] 71 [(.one a0)] H Q
def Fn.slices_SortFunc_int_int (a0 : AC) (a1 : AC) (H : AHeap) (Q : AHeap → Prop) : Prop := RunT Try.prog [] 75 [(.one a0), (.one a1)] H Q
def Fn.slices_Compare_int_int (a0 : AC) (a1 : AC) (H : AHeap) (Q : AHeap → Int → Prop) : Prop := RunT Try.prog [(false, [.int .i64])] 76 [(.one a0), (.one a1)] H Q
def Fn.fetterlockref6_trueAt (a0 : AC) (a1 : AC) (H : AHeap) (Q : AHeap → AC → Prop) : Prop := RunT Try.prog [(false, [.ac])] 77 [(.one a0), (.one a1)] H Q
def Fn.fetterlockref6_prime (a0 : AC) (a1 : AC) (H : AHeap) (Q : AHeap → Bool → Prop) : Prop := RunT Try.prog [(false, [.bool])] 78 [(.one a0), (.one a1)] H Q
def Fn.fetterlockref6_ListBefore (a0 : AC) (a1 : AC) (H : AHeap) (Q : AHeap → Bool → Prop) : Prop := RunT Try.prog [(false, [.bool])] 79 [(.one a0), (.one a1)] H Q
def Fn.solve_manager_node (a0 : AC) (a1 : Int) (a2 : Int) (a3 : Int) (H : AHeap) (Q : AHeap → Int → Prop) : Prop := RunT Try.prog [(false, [.int .i64])] 80 [(.one a0), (.one (.int .i64 a1)), (.one (.int .i64 a2)), (.one (.int .i64 a3))] H Q
def Fn.solve_manager_ite (a0 : AC) (a1 : Int) (a2 : Int) (a3 : Int) (H : AHeap) (Q : AHeap → Int → Prop) : Prop := RunT Try.prog [(false, [.int .i64])] 81 [(.one a0), (.one (.int .i64 a1)), (.one (.int .i64 a2)), (.one (.int .i64 a3))] H Q
def Fn.fetterlockref6_uniform (a0 : AC) (H : AHeap) (Q : AHeap → Bool → Prop) : Prop := RunT Try.prog [(false, [.bool])] 82 [(.one a0)] H Q
def Fn.fetterlockref6_alike (a0 : AC) (a1 : AC) (H : AHeap) (Q : AHeap → Bool → Prop) : Prop := RunT Try.prog [(false, [.bool])] 83 [(.one a0), (.one a1)] H Q
def Fn.solve_manager_add_1 (a0 : Int) (a1 : AC) (H : AHeap) (Q : AHeap → Int → Prop) : Prop := RunT Try.prog [(false, [.int .i64])] 84 [(.one (.int .i64 a0)), (.one a1)] H Q
def Fn.slices_ContainsFunc_fetterlock_api_Node_fetterlock_api_Node (a0 : AC) (a1 : AC) (H : AHeap) (Q : AHeap → Bool → Prop) : Prop := RunT Try.prog [(false, [.bool])] 85 [(.one a0), (.one a1)] H Q
def Fn.solve_varsFault_1 (a0_0 : Int) (a0_1 : Int) (a0_2 : Int) (a1 : AC) (H : AHeap) (Q : AHeap → Bool → Prop) : Prop := RunT Try.prog [(false, [.bool])] 86 [(.agg [(.int .i64 a0_0), (.int .i64 a0_1), (.int .i64 a0_2)]), (.one a1)] H Q
def Fn.slices_Sort_int_int (a0 : AC) (H : AHeap) (Q : AHeap → Prop) : Prop := RunT Try.prog [] 87 [(.one a0)] H Q
def Fn.solve_manager_diagram_1 (a0 : Int) (a1 : AC) (a2 : AC) (a3 : AC) (a4 : AC) (H : AHeap) (Q : AHeap → Int → Prop) : Prop := RunT Try.prog [(false, [.int .i64])] 88 [(.one (.int .i64 a0)), (.one a1), (.one a2), (.one a3), (.one a4)] H Q
def Fn.solve_manager_fixed_1 (a0 : Int) (a1 : AC) (a2 : AC) (a3 : AC) (a4 : AC) (a5 : AC) (H : AHeap) (Q : AHeap → Int → Prop) : Prop := RunT Try.prog [(false, [.int .i64])] 89 [(.one (.int .i64 a0)), (.one a1), (.one a2), (.one a3), (.one a4), (.one a5)] H Q
def Fn.solve_manager_top (a0 : AC) (a1 : Int) (H : AHeap) (Q : AHeap → Int → Prop) : Prop := RunT Try.prog [(false, [.int .i64])] 90 [(.one a0), (.one (.int .i64 a1))] H Q
def Fn.slices_IndexFunc_int_int (a0 : AC) (a1 : AC) (H : AHeap) (Q : AHeap → Int → Prop) : Prop := RunT Try.prog [(false, [.int .i64])] 91 [(.one a0), (.one a1)] H Q
def Fn.slices_Collect_int (a0 : AC) (H : AHeap) (Q : AHeap → AC → Prop) : Prop := RunT Try.prog [(false, [.ac])] 92 [(.one a0)] H Q
def Fn.slices_Values_int_int_1 (a0 : AC) (a1 : AC) (H : AHeap) (Q : AHeap → Prop) : Prop := RunT Try.prog [] 93 [(.one a0), (.one a1)] H Q
def Fn.slices_pdqsortCmpFunc_int (a0 : AC) (a1 : Int) (a2 : Int) (a3 : Int) (a4 : AC) (H : AHeap) (Q : AHeap → Prop) : Prop := RunT Try.prog [] 94 [(.one a0), (.one (.int .i64 a1)), (.one (.int .i64 a2)), (.one (.int .i64 a3)), (.one a4)] H Q
def Fn.cmp_Compare_int (a0 : Int) (a1 : Int) (H : AHeap) (Q : AHeap → Int → Prop) : Prop := RunT Try.prog [(false, [.int .i64])] 96 [(.one (.int .i64 a0)), (.one (.int .i64 a1))] H Q
def Fn.solve_manager_split (a0 : AC) (a1 : Int) (a2 : Int) (H : AHeap) (Q : AHeap → Int → Int → Prop) : Prop := RunT Try.prog [(false, [.int .i64]), (false, [.int .i64])] 98 [(.one a0), (.one (.int .i64 a1)), (.one (.int .i64 a2))] H Q
def Fn.slices_IndexFunc_fetterlock_api_Node_fetterlock_api_Node (a0 : AC) (a1 : AC) (H : AHeap) (Q : AHeap → Int → Prop) : Prop := RunT Try.prog [(false, [.int .i64])] 99 [(.one a0), (.one a1)] H Q
def Fn.slices_pdqsortOrdered_int (a0 : AC) (a1 : Int) (a2 : Int) (a3 : Int) (H : AHeap) (Q : AHeap → Prop) : Prop := RunT Try.prog [] 100 [(.one a0), (.one (.int .i64 a1)), (.one (.int .i64 a2)), (.one (.int .i64 a3))] H Q
def Fn.slices_insertionSortCmpFunc_int (a0 : AC) (a1 : Int) (a2 : Int) (a3 : AC) (H : AHeap) (Q : AHeap → Prop) : Prop := RunT Try.prog [] 102 [(.one a0), (.one (.int .i64 a1)), (.one (.int .i64 a2)), (.one a3)] H Q
def Fn.slices_heapSortCmpFunc_int (a0 : AC) (a1 : Int) (a2 : Int) (a3 : AC) (H : AHeap) (Q : AHeap → Prop) : Prop := RunT Try.prog [] 103 [(.one a0), (.one (.int .i64 a1)), (.one (.int .i64 a2)), (.one a3)] H Q
def Fn.slices_breakPatternsCmpFunc_int (a0 : AC) (a1 : Int) (a2 : Int) (a3 : AC) (H : AHeap) (Q : AHeap → Prop) : Prop := RunT Try.prog [] 104 [(.one a0), (.one (.int .i64 a1)), (.one (.int .i64 a2)), (.one a3)] H Q
def Fn.slices_choosePivotCmpFunc_int (a0 : AC) (a1 : Int) (a2 : Int) (a3 : AC) (H : AHeap) (Q : AHeap → Int → Int → Prop) : Prop := RunT Try.prog [(false, [.int .i64]), (false, [.int .i64])] 105 [(.one a0), (.one (.int .i64 a1)), (.one (.int .i64 a2)), (.one a3)] H Q
def Fn.slices_reverseRangeCmpFunc_int (a0 : AC) (a1 : Int) (a2 : Int) (a3 : AC) (H : AHeap) (Q : AHeap → Prop) : Prop := RunT Try.prog [] 106 [(.one a0), (.one (.int .i64 a1)), (.one (.int .i64 a2)), (.one a3)] H Q
def Fn.slices_partialInsertionSortCmpFunc_int (a0 : AC) (a1 : Int) (a2 : Int) (a3 : AC) (H : AHeap) (Q : AHeap → Bool → Prop) : Prop := RunT Try.prog [(false, [.bool])] 107 [(.one a0), (.one (.int .i64 a1)), (.one (.int .i64 a2)), (.one a3)] H Q
def Fn.slices_partitionEqualCmpFunc_int (a0 : AC) (a1 : Int) (a2 : Int) (a3 : Int) (a4 : AC) (H : AHeap) (Q : AHeap → Int → Prop) : Prop := RunT Try.prog [(false, [.int .i64])] 108 [(.one a0), (.one (.int .i64 a1)), (.one (.int .i64 a2)), (.one (.int .i64 a3)), (.one a4)] H Q
def Fn.slices_partitionCmpFunc_int (a0 : AC) (a1 : Int) (a2 : Int) (a3 : Int) (a4 : AC) (H : AHeap) (Q : AHeap → Int → Bool → Prop) : Prop := RunT Try.prog [(false, [.int .i64]), (false, [.bool])] 109 [(.one a0), (.one (.int .i64 a1)), (.one (.int .i64 a2)), (.one (.int .i64 a3)), (.one a4)] H Q
def Fn.math_bits_Len32 (a0 : Int) (H : AHeap) (Q : AHeap → Int → Prop) : Prop := RunT Try.prog [(false, [.int .i64])] 110 [(.one (.int .u32 a0))] H Q
def Fn.math_bits_Len64 (a0 : Int) (H : AHeap) (Q : AHeap → Int → Prop) : Prop := RunT Try.prog [(false, [.int .i64])] 111 [(.one (.int .u64 a0))] H Q
def Fn.cmp_isNaN_int (a0 : Int) (H : AHeap) (Q : AHeap → Bool → Prop) : Prop := RunT Try.prog [(false, [.bool])] 112 [(.one (.int .i64 a0))] H Q
def Fn.slices_insertionSortOrdered_int (a0 : AC) (a1 : Int) (a2 : Int) (H : AHeap) (Q : AHeap → Prop) : Prop := RunT Try.prog [] 113 [(.one a0), (.one (.int .i64 a1)), (.one (.int .i64 a2))] H Q
def Fn.slices_heapSortOrdered_int (a0 : AC) (a1 : Int) (a2 : Int) (H : AHeap) (Q : AHeap → Prop) : Prop := RunT Try.prog [] 114 [(.one a0), (.one (.int .i64 a1)), (.one (.int .i64 a2))] H Q
def Fn.slices_breakPatternsOrdered_int (a0 : AC) (a1 : Int) (a2 : Int) (H : AHeap) (Q : AHeap → Prop) : Prop := RunT Try.prog [] 115 [(.one a0), (.one (.int .i64 a1)), (.one (.int .i64 a2))] H Q
def Fn.slices_choosePivotOrdered_int (a0 : AC) (a1 : Int) (a2 : Int) (H : AHeap) (Q : AHeap → Int → Int → Prop) : Prop := RunT Try.prog [(false, [.int .i64]), (false, [.int .i64])] 116 [(.one a0), (.one (.int .i64 a1)), (.one (.int .i64 a2))] H Q
def Fn.slices_reverseRangeOrdered_int (a0 : AC) (a1 : Int) (a2 : Int) (H : AHeap) (Q : AHeap → Prop) : Prop := RunT Try.prog [] 117 [(.one a0), (.one (.int .i64 a1)), (.one (.int .i64 a2))] H Q
def Fn.slices_partialInsertionSortOrdered_int (a0 : AC) (a1 : Int) (a2 : Int) (H : AHeap) (Q : AHeap → Bool → Prop) : Prop := RunT Try.prog [(false, [.bool])] 118 [(.one a0), (.one (.int .i64 a1)), (.one (.int .i64 a2))] H Q
def Fn.cmp_Less_int (a0 : Int) (a1 : Int) (H : AHeap) (Q : AHeap → Bool → Prop) : Prop := RunT Try.prog [(false, [.bool])] 119 [(.one (.int .i64 a0)), (.one (.int .i64 a1))] H Q
def Fn.slices_partitionEqualOrdered_int (a0 : AC) (a1 : Int) (a2 : Int) (a3 : Int) (H : AHeap) (Q : AHeap → Int → Prop) : Prop := RunT Try.prog [(false, [.int .i64])] 120 [(.one a0), (.one (.int .i64 a1)), (.one (.int .i64 a2)), (.one (.int .i64 a3))] H Q
def Fn.slices_partitionOrdered_int (a0 : AC) (a1 : Int) (a2 : Int) (a3 : Int) (H : AHeap) (Q : AHeap → Int → Bool → Prop) : Prop := RunT Try.prog [(false, [.int .i64]), (false, [.bool])] 121 [(.one a0), (.one (.int .i64 a1)), (.one (.int .i64 a2)), (.one (.int .i64 a3))] H Q
def Fn.slices_siftDownCmpFunc_int (a0 : AC) (a1 : Int) (a2 : Int) (a3 : Int) (a4 : AC) (H : AHeap) (Q : AHeap → Prop) : Prop := RunT Try.prog [] 122 [(.one a0), (.one (.int .i64 a1)), (.one (.int .i64 a2)), (.one (.int .i64 a3)), (.one a4)] H Q
def Fn.slices_nextPowerOfTwo (a0 : Int) (H : AHeap) (Q : AHeap → Int → Prop) : Prop := RunT Try.prog [(false, [.int .u64])] 123 [(.one (.int .i64 a0))] H Q
def Fn.slices_xorshift_Next (a0 : AC) (H : AHeap) (Q : AHeap → Int → Prop) : Prop := RunT Try.prog [(false, [.int .u64])] 124 [(.one a0)] H Q
def Fn.slices_medianAdjacentCmpFunc_int (a0 : AC) (a1 : Int) (a2 : AC) (a3 : AC) (H : AHeap) (Q : AHeap → Int → Prop) : Prop := RunT Try.prog [(false, [.int .i64])] 125 [(.one a0), (.one (.int .i64 a1)), (.one a2), (.one a3)] H Q
def Fn.slices_medianCmpFunc_int (a0 : AC) (a1 : Int) (a2 : Int) (a3 : Int) (a4 : AC) (a5 : AC) (H : AHeap) (Q : AHeap → Int → Prop) : Prop := RunT Try.prog [(false, [.int .i64])] 126 [(.one a0), (.one (.int .i64 a1)), (.one (.int .i64 a2)), (.one (.int .i64 a3)), (.one a4), (.one a5)] H Q
def Fn.slices_siftDownOrdered_int (a0 : AC) (a1 : Int) (a2 : Int) (a3 : Int) (H : AHeap) (Q : AHeap → Prop) : Prop := RunT Try.prog [] 127 [(.one a0), (.one (.int .i64 a1)), (.one (.int .i64 a2)), (.one (.int .i64 a3))] H Q
def Fn.slices_medianAdjacentOrdered_int (a0 : AC) (a1 : Int) (a2 : AC) (H : AHeap) (Q : AHeap → Int → Prop) : Prop := RunT Try.prog [(false, [.int .i64])] 128 [(.one a0), (.one (.int .i64 a1)), (.one a2)] H Q
def Fn.slices_medianOrdered_int (a0 : AC) (a1 : Int) (a2 : Int) (a3 : Int) (a4 : AC) (H : AHeap) (Q : AHeap → Int → Prop) : Prop := RunT Try.prog [(false, [.int .i64])] 129 [(.one a0), (.one (.int .i64 a1)), (.one (.int .i64 a2)), (.one (.int .i64 a3)), (.one a4)] H Q
def Fn.slices_order2CmpFunc_int (a0 : AC) (a1 : Int) (a2 : Int) (a3 : AC) (a4 : AC) (H : AHeap) (Q : AHeap → Int → Int → Prop) : Prop := RunT Try.prog [(false, [.int .i64]), (false, [.int .i64])] 130 [(.one a0), (.one (.int .i64 a1)), (.one (.int .i64 a2)), (.one a3), (.one a4)] H Q
def Fn.slices_order2Ordered_int (a0 : AC) (a1 : Int) (a2 : Int) (a3 : AC) (H : AHeap) (Q : AHeap → Int → Int → Prop) : Prop := RunT Try.prog [(false, [.int .i64]), (false, [.int .i64])] 131 [(.one a0), (.one (.int .i64 a1)), (.one (.int .i64 a2)), (.one a3)] H Q
end Go.Proofs.Ytanaaabejeeakaa
end
section
/- Printed by a program: the aggregates of whole numbers that are compared or used as keys. -/
namespace Go.Proofs.Ytanaaabejeeakaa
open Go.AI
set_option maxRecDepth 100000
set_option maxHeartbeats 2000000
set_option linter.unusedVariables false
theorem agg77 : AggFact Try.prog 77 3 := AggFact.struct _ Try.underlying77 (by kernel_rfl) (by kernel_rfl) (by kernel_rfl)
theorem agg115 : AggFact Try.prog 115 3 := AggFact.array Try.underlying115 (by kernel_rfl) Try.underlying3 (by kernel_rfl)
theorem aggs_ok : Facts Try.prog aggs := by
  intro e he
  simp only [aggs, List.mem_cons, List.not_mem_nil, or_false] at he
  rcases he with rfl | rfl
  · exact agg77
  · exact agg115
end Go.Proofs.Ytanaaabejeeakaa
end
section
/- Printed by a program: functions and what must hold ahead of them. -/
namespace Go.Proofs.Ytanaaabejeeakaa
open Go.AI
set_option maxRecDepth 100000
set_option maxHeartbeats 2000000
set_option linter.unusedVariables false
attribute [local irreducible] Ld Sto New NewS NewM NN NZ GE0 FA IA IAP LenS Slc App Cpy Clr MkS Fnc NilQ IxS Look MSet Run CV RunT CVT LoopT Same1 Same2 wpC wpOs wpT wpO wpOp

def solve_manager_build.c69 : RC := (.seq (.ops [.put 81 (.cm .lt (.tm 80) (.tm 79))]) (.seq (.cond 81 .skip (.exit 3)) (.seq (.block 4 (.seq (.ops [.put 82 (.ia 1 (.tm 78) (.tm 80)),
    .put 83 (.ld false [.int .i64] (.tm 82)),
    .put 11 (.mov (.tm 83))]) (.ops [.put 84 (.mov (.tm 9)),
    .put 85 (.mov (.tm 8)),
    .put 86 (.mov (.tm 11)),
    .put 87 (.callv (.tm 84) [(.tm 85), (.tm 86)]),
    .put 8 (.mov (.tm 87))]))) (.ops [.put 88 (.ar .add (.tm 80) (.ct (.one (.int .i64 1)))),
    .put 80 (.mov (.tm 88))]))))
def solve_manager_build.c64 : RC := (.seq (.seq (.ops [.put 78 (.mov (.tm 5)),
    .put 79 (.lens (.tm 78)),
    .put 80 (.mov (.ct (.one (.int .i64 0))))]) (.block 3 (.loop solve_manager_build.c69))) (.seq (.ops [.put 89 (.mov (.tm 8)),
    .put 4 (.mov (.tm 89))]) .ret))
def solve_manager_build.c9 : RC := (.seq (.ops [.put 16 (.cm .lt (.tm 15) (.tm 14))]) (.seq (.cond 16 .skip (.exit 0)) (.seq (.block 1 (.seq (.ops [.put 17 (.ia 3 (.tm 13) (.tm 15)),
    .put 18 (.ld true [.int .i64, .int .i64, .ac] (.tm 17)),
    .put 7 (.new 24 [(.int .i64 0), (.int .i64 0), (.sl none 0 0 (some 0))]),
    .run (.st 3 (.tm 7) (.tm 18))]) (.ops [.put 19 (.mov (.tm 5)),
    .put 20 (.mov (.tm 0)),
    .put 21 (.ld true [.int .i64, .int .i64, .ac] (.tm 7)),
    .put 22 (.call 43 [(.tm 20), (.tm 21)]),
    .put 23 (.blds 3 1 1 [(.int .i64 0)] [(0, 1, (.tm 22))]),
    .put 24 (.app 3 1 8 (.tm 19) (.tm 23)),
    .put 5 (.mov (.tm 24))]))) (.ops [.put 25 (.ar .add (.tm 15) (.ct (.one (.int .i64 1)))),
    .put 15 (.mov (.tm 25))]))))
def solve_manager_build.c : RC := (.seq (.ops [.put 3 (.box 24 (.tm 1)),
    .put 4 (.mov (.ct (.one (.int .i64 0))))]) (.seq (.ops [.put 5 (.mov (.ct (.one (.sl none 0 0 (some 0)))))]) (.seq (.seq (.ops [.put 12 (.fa 2 (.tm 3)),
    .put 13 (.ld false [.ac] (.tm 12)),
    .put 14 (.lens (.tm 13)),
    .put 15 (.mov (.ct (.one (.int .i64 0))))]) (.block 0 (.loop solve_manager_build.c9))) (.seq (.seq (.ops [.put 26 (.fa 0 (.tm 3)),
    .put 27 (.ld false [.int .i64] (.tm 26))]) (.block 2 (.seq (.ops [.put 29 (.cm .eq (.tm 27) (.ct (.one (.int .i64 1)))),
    .put 28 (.mov (.tm 29))]) (.cond 28 (.seq (.ops [.put 30 (.mov (.tm 0)),
    .put 31 (.fa 1 (.tm 3)),
    .put 32 (.ld false [.int .i64] (.tm 31)),
    .put 33 (.call 80 [(.tm 30), (.tm 32), (.ct (.one (.int .i64 (-1)))), (.ct (.one (.int .i64 (-2))))]),
    .put 4 (.mov (.tm 33))]) .ret) (.seq (.ops [.put 35 (.cm .eq (.tm 27) (.ct (.one (.int .i64 2)))),
    .put 34 (.mov (.tm 35))]) (.cond 34 (.seq (.ops [.put 36 (.blds 3 1 2 [(.int .i64 0), (.int .i64 0)] [(0, 1, (.ct (.one (.int .i64 (-1))))), (1, 1, (.ct (.one (.int .i64 (-2)))))]),
    .put 37 (.fa 1 (.tm 3)),
    .put 38 (.ld false [.int .i64] (.tm 37)),
    .put 39 (.ia 1 (.tm 36) (.tm 38)),
    .put 40 (.ld false [.int .i64] (.tm 39)),
    .put 4 (.mov (.tm 40))]) .ret) (.seq (.ops [.put 42 (.cm .eq (.tm 27) (.ct (.one (.int .i64 3)))),
    .put 41 (.mov (.tm 42))]) (.cond 41 (.seq (.ops [.put 43 (.mov (.tm 0)),
    .put 44 (.mov (.tm 5)),
    .put 45 (.ia 1 (.tm 44) (.ct (.one (.int .i64 0)))),
    .put 46 (.ld false [.int .i64] (.tm 45)),
    .put 47 (.call 56 [(.tm 43), (.tm 46)]),
    .put 4 (.mov (.tm 47))]) .ret) (.seq (.ops [.put 49 (.cm .eq (.tm 27) (.ct (.one (.int .i64 6)))),
    .put 48 (.mov (.tm 49))]) (.cond 48 (.seq (.ops [.put 50 (.mov (.tm 0)),
    .put 51 (.mov (.tm 5)),
    .put 52 (.ia 1 (.tm 51) (.ct (.one (.int .i64 0)))),
    .put 53 (.ld false [.int .i64] (.tm 52)),
    .put 54 (.mov (.tm 5)),
    .put 55 (.ia 1 (.tm 54) (.ct (.one (.int .i64 1)))),
    .put 56 (.ld false [.int .i64] (.tm 55)),
    .put 57 (.call 54 [(.tm 50), (.tm 53), (.tm 56)]),
    .put 4 (.mov (.tm 57))]) .ret) (.seq (.ops [.put 59 (.cm .eq (.tm 27) (.ct (.one (.int .i64 7)))),
    .put 58 (.mov (.tm 59))]) (.cond 58 (.seq (.ops [.put 60 (.mov (.tm 0)),
    .put 61 (.mov (.tm 5)),
    .put 62 (.ia 1 (.tm 61) (.ct (.one (.int .i64 0)))),
    .put 63 (.ld false [.int .i64] (.tm 62)),
    .put 64 (.mov (.tm 5)),
    .put 65 (.ia 1 (.tm 64) (.ct (.one (.int .i64 1)))),
    .put 66 (.ld false [.int .i64] (.tm 65)),
    .put 67 (.mov (.tm 5)),
    .put 68 (.ia 1 (.tm 67) (.ct (.one (.int .i64 2)))),
    .put 69 (.ld false [.int .i64] (.tm 68)),
    .put 70 (.call 81 [(.tm 60), (.tm 63), (.tm 66), (.tm 69)]),
    .put 4 (.mov (.tm 70))]) .ret) .skip)))))))))))) (.seq (.ops [.put 71 (.mov (.tm 0)),
    .put 72 (.fn 52 [(.tm 71)] []),
    .put 8 (.mov (.ct (.one (.int .i64 (-2))))),
    .put 9 (.mov (.tm 72))]) (.seq (.seq (.ops [.put 73 (.fa 0 (.tm 3)),
    .put 74 (.ld false [.int .i64] (.tm 73)),
    .put 75 (.cm .eq (.tm 74) (.ct (.one (.int .i64 5))))]) (.cond 75 (.ops [.put 76 (.mov (.tm 0)),
    .put 77 (.fn 53 [(.tm 76)] []),
    .put 8 (.mov (.ct (.one (.int .i64 (-1))))),
    .put 9 (.mov (.tm 77))]) .skip)) solve_manager_build.c64))))))
abbrev solve_manager_build.KQ (Q : AHeap → Int → Prop) : AV → AHeap → Prop := fun v H => ∃ xs : Tup (flat [(false, [.int .i64])]), v = joinR (splitP [(false, [.int .i64])] (cellsOf (flat [(false, [.int .i64])]) xs)) ∧ app (flat [(false, [.int .i64])]) (Q H) xs
abbrev solve_manager_build.K (Q : AHeap → Int → Prop) : Ex → Env → AHeap → Prop := kTop [.tm 4] (solve_manager_build.KQ Q)
abbrev solve_manager_build.k5 (Q : AHeap → Int → Prop) : Ex → Env → AHeap → Prop := kSeq (fun t H => wpC Try.prog (.seq (.seq (.ops [.put 26 (.fa 0 (.tm 3)),
    .put 27 (.ld false [.int .i64] (.tm 26))]) (.block 2 (.seq (.ops [.put 29 (.cm .eq (.tm 27) (.ct (.one (.int .i64 1)))),
    .put 28 (.mov (.tm 29))]) (.cond 28 (.seq (.ops [.put 30 (.mov (.tm 0)),
    .put 31 (.fa 1 (.tm 3)),
    .put 32 (.ld false [.int .i64] (.tm 31)),
    .put 33 (.call 80 [(.tm 30), (.tm 32), (.ct (.one (.int .i64 (-1)))), (.ct (.one (.int .i64 (-2))))]),
    .put 4 (.mov (.tm 33))]) .ret) (.seq (.ops [.put 35 (.cm .eq (.tm 27) (.ct (.one (.int .i64 2)))),
    .put 34 (.mov (.tm 35))]) (.cond 34 (.seq (.ops [.put 36 (.blds 3 1 2 [(.int .i64 0), (.int .i64 0)] [(0, 1, (.ct (.one (.int .i64 (-1))))), (1, 1, (.ct (.one (.int .i64 (-2)))))]),
    .put 37 (.fa 1 (.tm 3)),
    .put 38 (.ld false [.int .i64] (.tm 37)),
    .put 39 (.ia 1 (.tm 36) (.tm 38)),
    .put 40 (.ld false [.int .i64] (.tm 39)),
    .put 4 (.mov (.tm 40))]) .ret) (.seq (.ops [.put 42 (.cm .eq (.tm 27) (.ct (.one (.int .i64 3)))),
    .put 41 (.mov (.tm 42))]) (.cond 41 (.seq (.ops [.put 43 (.mov (.tm 0)),
    .put 44 (.mov (.tm 5)),
    .put 45 (.ia 1 (.tm 44) (.ct (.one (.int .i64 0)))),
    .put 46 (.ld false [.int .i64] (.tm 45)),
    .put 47 (.call 56 [(.tm 43), (.tm 46)]),
    .put 4 (.mov (.tm 47))]) .ret) (.seq (.ops [.put 49 (.cm .eq (.tm 27) (.ct (.one (.int .i64 6)))),
    .put 48 (.mov (.tm 49))]) (.cond 48 (.seq (.ops [.put 50 (.mov (.tm 0)),
    .put 51 (.mov (.tm 5)),
    .put 52 (.ia 1 (.tm 51) (.ct (.one (.int .i64 0)))),
    .put 53 (.ld false [.int .i64] (.tm 52)),
    .put 54 (.mov (.tm 5)),
    .put 55 (.ia 1 (.tm 54) (.ct (.one (.int .i64 1)))),
    .put 56 (.ld false [.int .i64] (.tm 55)),
    .put 57 (.call 54 [(.tm 50), (.tm 53), (.tm 56)]),
    .put 4 (.mov (.tm 57))]) .ret) (.seq (.ops [.put 59 (.cm .eq (.tm 27) (.ct (.one (.int .i64 7)))),
    .put 58 (.mov (.tm 59))]) (.cond 58 (.seq (.ops [.put 60 (.mov (.tm 0)),
    .put 61 (.mov (.tm 5)),
    .put 62 (.ia 1 (.tm 61) (.ct (.one (.int .i64 0)))),
    .put 63 (.ld false [.int .i64] (.tm 62)),
    .put 64 (.mov (.tm 5)),
    .put 65 (.ia 1 (.tm 64) (.ct (.one (.int .i64 1)))),
    .put 66 (.ld false [.int .i64] (.tm 65)),
    .put 67 (.mov (.tm 5)),
    .put 68 (.ia 1 (.tm 67) (.ct (.one (.int .i64 2)))),
    .put 69 (.ld false [.int .i64] (.tm 68)),
    .put 70 (.call 81 [(.tm 60), (.tm 63), (.tm 66), (.tm 69)]),
    .put 4 (.mov (.tm 70))]) .ret) .skip)))))))))))) (.seq (.ops [.put 71 (.mov (.tm 0)),
    .put 72 (.fn 52 [(.tm 71)] []),
    .put 8 (.mov (.ct (.one (.int .i64 (-2))))),
    .put 9 (.mov (.tm 72))]) (.seq (.seq (.ops [.put 73 (.fa 0 (.tm 3)),
    .put 74 (.ld false [.int .i64] (.tm 73)),
    .put 75 (.cm .eq (.tm 74) (.ct (.one (.int .i64 5))))]) (.cond 75 (.ops [.put 76 (.mov (.tm 0)),
    .put 77 (.fn 53 [(.tm 76)] []),
    .put 8 (.mov (.ct (.one (.int .i64 (-1))))),
    .put 9 (.mov (.tm 77))]) .skip)) solve_manager_build.c64))) t H (solve_manager_build.K Q)) (solve_manager_build.K Q)
abbrev solve_manager_build.k65 (Q : AHeap → Int → Prop) : Ex → Env → AHeap → Prop := kSeq (fun t H => wpC Try.prog (.seq (.ops [.put 89 (.mov (.tm 8)),
    .put 4 (.mov (.tm 89))]) .ret) t H (solve_manager_build.K Q)) (solve_manager_build.K Q)
def solve_manager_build.R68 (s : Tup [.int .i64, .ac, .ac, .int .i64, .int .i64]) (t : Env) : Prop := t 8 = (.one (.int .i64 (s.1))) ∧ t 9 = (.one (s.2.1)) ∧ t 78 = (.one (s.2.2.1)) ∧ t 79 = (.one (.int .i64 (s.2.2.2.1))) ∧ t 80 = (.one (.int .i64 (s.2.2.2.2.1))) ∧ True
def solve_manager_build.R8 (s : Tup [.ac, .ac, .ac, .ac, .int .i64, .int .i64]) (t : Env) : Prop := t 0 = (.one (s.1)) ∧ t 3 = (.one (s.2.1)) ∧ t 5 = (.one (s.2.2.1)) ∧ t 13 = (.one (s.2.2.2.1)) ∧ t 14 = (.one (.int .i64 (s.2.2.2.2.1))) ∧ t 15 = (.one (.int .i64 (s.2.2.2.2.2.1))) ∧ True
def solve_manager_build.b68 (Q : AHeap → Int → Prop) (Y68 : Tup [.int .i64, .ac, .ac, .int .i64, .int .i64] → AHeap → Prop) (x8 : Int) (x9 : AC) (x78 : AC) (x79 : Int) (x80 : Int) (H : AHeap) : Prop :=
  CondB (decide (x80 < x79))
    (IA 1 x78 x80 fun q_1 =>
    Ld [.int .i64] H q_1 fun (v_2 : Int) =>
    CVT Try.prog [(false, [.int .i64])] x9 [(.one (.int .i64 x8)), (.one (.int .i64 v_2))] H fun H_3 (v_4 : Int) =>
    Y68 ((v_4 : Int), x9, x78, (x79 : Int), ((IntKind.wrap .i64 (x80 + 1)) : Int), ()) H_3)
    (Q H x8)
def solve_manager_build.l68 (Q : AHeap → Int → Prop) (x8 : Int) (x9 : AC) (x78 : AC) (x79 : Int) (x80 : Int) (H : AHeap) : Prop := LoopT (Tup [.int .i64, .ac, .ac, .int .i64, .int .i64]) (fun Y s H => solve_manager_build.b68 Q Y (s.1) (s.2.1) (s.2.2.1) (s.2.2.2.1) (s.2.2.2.2.1) H) (x8, x9, x78, x79, x80, ()) H
def solve_manager_build.p64 (Q : AHeap → Int → Prop) (x5 : AC) (x8 : Int) (x9 : AC) (H : AHeap) : Prop :=
  LenS x5 fun n_1 =>
  solve_manager_build.l68 Q x8 x9 x5 n_1 0 H
def solve_manager_build.b8 (Q : AHeap → Int → Prop) (Y8 : Tup [.ac, .ac, .ac, .ac, .int .i64, .int .i64] → AHeap → Prop) (x0 : AC) (x3 : AC) (x5 : AC) (x13 : AC) (x14 : Int) (x15 : Int) (H : AHeap) : Prop :=
  CondB (decide (x15 < x14))
    (IA 3 x13 x15 fun q_1 =>
    Ld [.int .i64, .int .i64, .ac] H q_1 fun (v_2 : Int) (v_3 : Int) (v_4 : AC) =>
    New 24 [(.int .i64 0), (.int .i64 0), (.sl none 0 0 (some 0))] H fun p_5 H_6 =>
    Sto H_6 p_5 [(.int .i64 v_2), (.int .i64 v_3), v_4] fun H_7 =>
    Ld [.int .i64, .int .i64, .ac] H_7 p_5 fun (v_8 : Int) (v_9 : Int) (v_10 : AC) =>
    Fn.solve_manager_build x0 v_8 v_9 v_10 H_7 fun H_11 (v_12 : Int) =>
    NewS 3 1 1 [(.int .i64 v_12)] H_11 fun p_13 H_14 =>
    App 3 1 8 x5 p_13 H_14 fun s_15 H_16 =>
    Y8 (x0, x3, s_15, x13, (x14 : Int), ((IntKind.wrap .i64 (x15 + 1)) : Int), ()) H_16)
    (FA 0 x3 fun q_17 =>
    Ld [.int .i64] H q_17 fun (v_18 : Int) =>
    CondB (v_18 == 1)
      (FA 1 x3 fun q_19 =>
      Ld [.int .i64] H q_19 fun (v_20 : Int) =>
      Fn.solve_manager_node x0 v_20 (-1) (-2) H fun H_21 (v_22 : Int) =>
      Q H_21 v_22)
      (CondB (v_18 == 2)
        (NewS 3 1 2 [(.int .i64 (-1)), (.int .i64 (-2))] H fun p_23 H_24 =>
        FA 1 x3 fun q_25 =>
        Ld [.int .i64] H_24 q_25 fun (v_26 : Int) =>
        IA 1 p_23 v_26 fun q_27 =>
        Ld [.int .i64] H_24 q_27 fun (v_28 : Int) =>
        Q H_24 v_28)
        (CondB (v_18 == 3)
          (IA 1 x5 0 fun q_29 =>
          Ld [.int .i64] H q_29 fun (v_30 : Int) =>
          Fn.solve_manager_not x0 v_30 H fun H_31 (v_32 : Int) =>
          Q H_31 v_32)
          (CondB (v_18 == 6)
            (IA 1 x5 0 fun q_33 =>
            Ld [.int .i64] H q_33 fun (v_34 : Int) =>
            IA 1 x5 1 fun q_35 =>
            Ld [.int .i64] H q_35 fun (v_36 : Int) =>
            Fn.solve_manager_xor x0 v_34 v_36 H fun H_37 (v_38 : Int) =>
            Q H_37 v_38)
            (CondB (v_18 == 7)
              (IA 1 x5 0 fun q_39 =>
              Ld [.int .i64] H q_39 fun (v_40 : Int) =>
              IA 1 x5 1 fun q_41 =>
              Ld [.int .i64] H q_41 fun (v_42 : Int) =>
              IA 1 x5 2 fun q_43 =>
              Ld [.int .i64] H q_43 fun (v_44 : Int) =>
              Fn.solve_manager_ite x0 v_40 v_42 v_44 H fun H_45 (v_46 : Int) =>
              Q H_45 v_46)
              (Fnc 52 [x0] [] fun f_47 =>
              FA 0 x3 fun q_48 =>
              Ld [.int .i64] H q_48 fun (v_49 : Int) =>
              CondB (v_49 == 5)
                (Fnc 53 [x0] [] fun f_50 =>
                solve_manager_build.p64 Q x5 (-1) f_50 H)
                (solve_manager_build.p64 Q x5 (-2) f_47 H)))))))
def solve_manager_build.l8 (Q : AHeap → Int → Prop) (x0 : AC) (x3 : AC) (x5 : AC) (x13 : AC) (x14 : Int) (x15 : Int) (H : AHeap) : Prop := LoopT (Tup [.ac, .ac, .ac, .ac, .int .i64, .int .i64]) (fun Y s H => solve_manager_build.b8 Q Y (s.1) (s.2.1) (s.2.2.1) (s.2.2.2.1) (s.2.2.2.2.1) (s.2.2.2.2.2.1) H) (x0, x3, x5, x13, x14, x15, ()) H
def solve_manager_build.W (a0 : AC) (a1_0 : Int) (a1_1 : Int) (a1_2 : AC) (H : AHeap) (Q : AHeap → Int → Prop) : Prop :=
  New 24 [(.int .i64 a1_0), (.int .i64 a1_1), a1_2] H fun p_1 H_2 =>
  FA 2 p_1 fun q_3 =>
  Ld [.ac] H_2 q_3 fun (v_4 : AC) =>
  LenS v_4 fun n_5 =>
  solve_manager_build.l8 Q a0 p_1 (.sl none 0 0 (some 0)) v_4 n_5 0 H_2
theorem solve_manager_build.b68_ok (Q : AHeap → Int → Prop) (Y68 : Tup [.int .i64, .ac, .ac, .int .i64, .int .i64] → AHeap → Prop) (X68 : Env → AHeap → Prop) (hX68 : ∀ s t H, solve_manager_build.R68 s t → Y68 s H → X68 t H) {x8 : Int} {x9 : AC} {x78 : AC} {x79 : Int} {x80 : Int} {H : AHeap} (j : Env) : solve_manager_build.b68 Q Y68 x8 x9 x78 x79 x80 H → wpC Try.prog solve_manager_build.c69 (upd (upd (upd (upd (upd j 8 (.one (.int .i64 x8))) 9 (.one x9)) 78 (.one x78)) 79 (.one (.int .i64 x79))) 80 (.one (.int .i64 x80))) H (kSeq X68 (kBlk 3 (solve_manager_build.k65 Q))) := c_seq (c_ops (s_cons (w_put (o_lt rfl rfl (s_nil (k_seq (c_seq (c_if rfl (c_skip (k_seq (c_seq (c_blk (c_seq (c_ops (s_cons (w_put (o_ia rfl rfl (fun q_1 => s_cons (w_put (o_ld1 rfl (fun (v_2 : Int) => s_cons (w_put (o_mov rfl (s_nil (k_seq (c_ops (s_cons (w_put (o_mov rfl (s_cons (w_put (o_mov rfl (s_cons (w_put (o_mov rfl (s_cons (w_put (o_callv rfl rfl (cu_1 (fun H_3 (v_4 : Int) => s_cons (w_put (o_mov rfl (s_nil (k_blk (k_seq (c_ops (s_cons (w_put (o_add rfl rfl (s_cons (w_put (o_mov rfl (s_nil (k_seq (hX68 _ _ _ ⟨rfl, rfl, rfl, rfl, rfl, trivial⟩))))))))))))))))))))))))))))))))))))))))))))))) (c_exit (k_seqE (k_seqE (k_blkH (k_seq (c_seq (c_ops (s_cons (w_put (o_mov rfl (s_cons (w_put (o_mov rfl (s_nil (k_seq (c_ret (k_topR (r_one rfl (r_nil (fun h => ⟨((x8 : Int), ()), rfl, h⟩))))))))))))))))))))))))))))
theorem solve_manager_build.l68_ok (Q : AHeap → Int → Prop) {x8 : Int} {x9 : AC} {x78 : AC} {x79 : Int} {x80 : Int} {H : AHeap} {t : Env} (h8 : t 8 = (.one (.int .i64 x8))) (h9 : t 9 = (.one x9)) (h78 : t 78 = (.one x78)) (h79 : t 79 = (.one (.int .i64 x79))) (h80 : t 80 = (.one (.int .i64 x80))) : solve_manager_build.l68 Q x8 x9 x78 x79 x80 H → wpC Try.prog (.loop solve_manager_build.c69) t H (kBlk 3 (solve_manager_build.k65 Q)) :=
  m_loop solve_manager_build.R68 ⟨h8, h9, h78, h79, h80, trivial⟩ fun X Y hX s t H hR hB => by
    have g := solve_manager_build.b68_ok Q Y X hX t hB
    rw [upd_self hR.1] at g
    rw [upd_self hR.2.1] at g
    rw [upd_self hR.2.2.1] at g
    rw [upd_self hR.2.2.2.1] at g
    rw [upd_self hR.2.2.2.2.1] at g
    exact g
theorem solve_manager_build.p64_okE (Q : AHeap → Int → Prop) {x5 : AC} {x8 : Int} {x9 : AC} {H : AHeap} (j : Env) : solve_manager_build.p64 Q x5 x8 x9 H → wpC Try.prog solve_manager_build.c64 (upd (upd (upd j 5 (.one x5)) 8 (.one (.int .i64 x8))) 9 (.one x9)) H (solve_manager_build.K Q) := c_seq (c_seq (c_ops (s_cons (w_put (o_mov rfl (s_cons (w_put (o_lens rfl (fun n_1 => s_cons (w_put (o_mov rfl (s_nil (k_seq (c_blk (solve_manager_build.l68_ok Q rfl rfl rfl rfl rfl)))))))))))))))
theorem solve_manager_build.p64_ok (Q : AHeap → Int → Prop) {x5 : AC} {x8 : Int} {x9 : AC} {H : AHeap} {t : Env} (h5 : t 5 = (.one x5)) (h8 : t 8 = (.one (.int .i64 x8))) (h9 : t 9 = (.one x9)) (h : solve_manager_build.p64 Q x5 x8 x9 H) : wpC Try.prog solve_manager_build.c64 t H (solve_manager_build.K Q) := by
  have g := solve_manager_build.p64_okE Q t h
  rw [upd_self h5] at g
  rw [upd_self h8] at g
  rw [upd_self h9] at g
  exact g
theorem solve_manager_build.b8_ok (Q : AHeap → Int → Prop) (Y8 : Tup [.ac, .ac, .ac, .ac, .int .i64, .int .i64] → AHeap → Prop) (X8 : Env → AHeap → Prop) (hX8 : ∀ s t H, solve_manager_build.R8 s t → Y8 s H → X8 t H) {x0 : AC} {x3 : AC} {x5 : AC} {x13 : AC} {x14 : Int} {x15 : Int} {H : AHeap} (j : Env) : solve_manager_build.b8 Q Y8 x0 x3 x5 x13 x14 x15 H → wpC Try.prog solve_manager_build.c9 (upd (upd (upd (upd (upd (upd j 0 (.one x0)) 3 (.one x3)) 5 (.one x5)) 13 (.one x13)) 14 (.one (.int .i64 x14))) 15 (.one (.int .i64 x15))) H (kSeq X8 (kBlk 0 (solve_manager_build.k5 Q))) := c_seq (c_ops (s_cons (w_put (o_lt rfl rfl (s_nil (k_seq (c_seq (c_if rfl (c_skip (k_seq (c_seq (c_blk (c_seq (c_ops (s_cons (w_put (o_ia rfl rfl (fun q_1 => s_cons (w_put (o_ld3 rfl (fun (v_2 : Int) (v_3 : Int) (v_4 : AC) => s_cons (w_put (o_new (fun p_5 H_6 => s_cons (w_run (o_st rfl rfl rfl (fun H_7 => s_nil (k_seq (c_ops (s_cons (w_put (o_mov rfl (s_cons (w_put (o_mov rfl (s_cons (w_put (o_ld3 rfl (fun (v_8 : Int) (v_9 : Int) (v_10 : AC) => s_cons (w_put (o_call rfl (cv_1 (fun H_11 (v_12 : Int) => s_cons (w_put (o_blds rfl (fun p_13 H_14 => s_cons (w_put (o_app rfl rfl (fun s_15 H_16 => s_cons (w_put (o_mov rfl (s_nil (k_blk (k_seq (c_ops (s_cons (w_put (o_add rfl rfl (s_cons (w_put (o_mov rfl (s_nil (k_seq (hX8 _ _ _ ⟨rfl, rfl, rfl, rfl, rfl, rfl, trivial⟩)))))))))))))))))))))))))))))))))))))))))))))))))))))))) (c_exit (k_seqE (k_seqE (k_blkH (k_seq (c_seq (c_seq (c_ops (s_cons (w_put (o_fa rfl (fun q_17 => s_cons (w_put (o_ld1 rfl (fun (v_18 : Int) => s_nil (k_seq (c_blk (c_seq (c_ops (s_cons (w_put (o_eq rfl rfl (s_cons (w_put (o_mov rfl (s_nil (k_seq (c_if rfl (c_seq (c_ops (s_cons (w_put (o_mov rfl (s_cons (w_put (o_fa rfl (fun q_19 => s_cons (w_put (o_ld1 rfl (fun (v_20 : Int) => s_cons (w_put (o_call rfl (cv_1 (fun H_21 (v_22 : Int) => s_cons (w_put (o_mov rfl (s_nil (k_seq (c_ret (k_blkR (k_seqR (k_topR (r_one rfl (r_nil (fun h => ⟨((v_22 : Int), ()), rfl, h⟩))))))))))))))))))))))))))) (c_seq (c_ops (s_cons (w_put (o_eq rfl rfl (s_cons (w_put (o_mov rfl (s_nil (k_seq (c_if rfl (c_seq (c_ops (s_cons (w_put (o_blds rfl (fun p_23 H_24 => s_cons (w_put (o_fa rfl (fun q_25 => s_cons (w_put (o_ld1 rfl (fun (v_26 : Int) => s_cons (w_put (o_ia rfl rfl (fun q_27 => s_cons (w_put (o_ld1 rfl (fun (v_28 : Int) => s_cons (w_put (o_mov rfl (s_nil (k_seq (c_ret (k_blkR (k_seqR (k_topR (r_one rfl (r_nil (fun h => ⟨((v_28 : Int), ()), rfl, h⟩))))))))))))))))))))))))))))) (c_seq (c_ops (s_cons (w_put (o_eq rfl rfl (s_cons (w_put (o_mov rfl (s_nil (k_seq (c_if rfl (c_seq (c_ops (s_cons (w_put (o_mov rfl (s_cons (w_put (o_mov rfl (s_cons (w_put (o_ia rfl rfl (fun q_29 => s_cons (w_put (o_ld1 rfl (fun (v_30 : Int) => s_cons (w_put (o_call rfl (cv_1 (fun H_31 (v_32 : Int) => s_cons (w_put (o_mov rfl (s_nil (k_seq (c_ret (k_blkR (k_seqR (k_topR (r_one rfl (r_nil (fun h => ⟨((v_32 : Int), ()), rfl, h⟩)))))))))))))))))))))))))))))) (c_seq (c_ops (s_cons (w_put (o_eq rfl rfl (s_cons (w_put (o_mov rfl (s_nil (k_seq (c_if rfl (c_seq (c_ops (s_cons (w_put (o_mov rfl (s_cons (w_put (o_mov rfl (s_cons (w_put (o_ia rfl rfl (fun q_33 => s_cons (w_put (o_ld1 rfl (fun (v_34 : Int) => s_cons (w_put (o_mov rfl (s_cons (w_put (o_ia rfl rfl (fun q_35 => s_cons (w_put (o_ld1 rfl (fun (v_36 : Int) => s_cons (w_put (o_call rfl (cv_1 (fun H_37 (v_38 : Int) => s_cons (w_put (o_mov rfl (s_nil (k_seq (c_ret (k_blkR (k_seqR (k_topR (r_one rfl (r_nil (fun h => ⟨((v_38 : Int), ()), rfl, h⟩))))))))))))))))))))))))))))))))))))))) (c_seq (c_ops (s_cons (w_put (o_eq rfl rfl (s_cons (w_put (o_mov rfl (s_nil (k_seq (c_if rfl (c_seq (c_ops (s_cons (w_put (o_mov rfl (s_cons (w_put (o_mov rfl (s_cons (w_put (o_ia rfl rfl (fun q_39 => s_cons (w_put (o_ld1 rfl (fun (v_40 : Int) => s_cons (w_put (o_mov rfl (s_cons (w_put (o_ia rfl rfl (fun q_41 => s_cons (w_put (o_ld1 rfl (fun (v_42 : Int) => s_cons (w_put (o_mov rfl (s_cons (w_put (o_ia rfl rfl (fun q_43 => s_cons (w_put (o_ld1 rfl (fun (v_44 : Int) => s_cons (w_put (o_call rfl (cv_1 (fun H_45 (v_46 : Int) => s_cons (w_put (o_mov rfl (s_nil (k_seq (c_ret (k_blkR (k_seqR (k_topR (r_one rfl (r_nil (fun h => ⟨((v_46 : Int), ()), rfl, h⟩)))))))))))))))))))))))))))))))))))))))))))))))) (c_skip (k_blk (k_seq (c_seq (c_ops (s_cons (w_put (o_mov rfl (s_cons (w_put (o_fn rfl rfl (fun f_47 => s_cons (w_put (o_mov rfl (s_cons (w_put (o_mov rfl (s_nil (k_seq (c_seq (c_seq (c_ops (s_cons (w_put (o_fa rfl (fun q_48 => s_cons (w_put (o_ld1 rfl (fun (v_49 : Int) => s_cons (w_put (o_eq rfl rfl (s_nil (k_seq (c_if rfl (c_ops (s_cons (w_put (o_mov rfl (s_cons (w_put (o_fn rfl rfl (fun f_50 => s_cons (w_put (o_mov rfl (s_cons (w_put (o_mov rfl (s_nil (k_seq (solve_manager_build.p64_ok Q rfl rfl rfl)))))))))))))))) (c_skip (k_seq (solve_manager_build.p64_ok Q rfl rfl rfl)))))))))))))))))))))))))))))))))))))))))))))))))))))))))))))))))))))))))))))))))))))))))))))))))))))))))))))))))))))
theorem solve_manager_build.l8_ok (Q : AHeap → Int → Prop) {x0 : AC} {x3 : AC} {x5 : AC} {x13 : AC} {x14 : Int} {x15 : Int} {H : AHeap} {t : Env} (h0 : t 0 = (.one x0)) (h3 : t 3 = (.one x3)) (h5 : t 5 = (.one x5)) (h13 : t 13 = (.one x13)) (h14 : t 14 = (.one (.int .i64 x14))) (h15 : t 15 = (.one (.int .i64 x15))) : solve_manager_build.l8 Q x0 x3 x5 x13 x14 x15 H → wpC Try.prog (.loop solve_manager_build.c9) t H (kBlk 0 (solve_manager_build.k5 Q)) :=
  m_loop solve_manager_build.R8 ⟨h0, h3, h5, h13, h14, h15, trivial⟩ fun X Y hX s t H hR hB => by
    have g := solve_manager_build.b8_ok Q Y X hX t hB
    rw [upd_self hR.1] at g
    rw [upd_self hR.2.1] at g
    rw [upd_self hR.2.2.1] at g
    rw [upd_self hR.2.2.2.1] at g
    rw [upd_self hR.2.2.2.2.1] at g
    rw [upd_self hR.2.2.2.2.2.1] at g
    exact g
theorem solve_manager_build.ok {a0 : AC} {a1_0 : Int} {a1_1 : Int} {a1_2 : AC} {H : AHeap} (Q : AHeap → Int → Prop) : solve_manager_build.W a0 a1_0 a1_1 a1_2 H Q → wpF Try.prog solve_manager_build.c [.tm 4] (envOf [(.one a0), (.agg [(.int .i64 a1_0), (.int .i64 a1_1), a1_2])]) H (solve_manager_build.KQ Q) := c_seq (c_ops (s_cons (w_put (o_box rfl (fun p_1 H_2 => s_cons (w_put (o_mov rfl (s_nil (k_seq (c_seq (c_ops (s_cons (w_put (o_mov rfl (s_nil (k_seq (c_seq (c_seq (c_ops (s_cons (w_put (o_fa rfl (fun q_3 => s_cons (w_put (o_ld1 rfl (fun (v_4 : AC) => s_cons (w_put (o_lens rfl (fun n_5 => s_cons (w_put (o_mov rfl (s_nil (k_seq (c_blk (solve_manager_build.l8_ok Q rfl rfl rfl rfl rfl rfl)))))))))))))))))))))))))))))))))))
theorem solve_manager_build.slimOk : slimOk [(15, []), (17, [])] (Try.f43.body.getD .skip) = true := by kernel_rfl
theorem solve_manager_build.resC : resC Try.prog aggs Try.f43.ntmps (slim [(15, []), (17, [])] (Try.f43.body.getD .skip)) = some solve_manager_build.c := by kernel_rfl
theorem solve_manager_build.resR : resR Try.prog Try.f43.results.toList = some [.tm 4] := by kernel_rfl
theorem solve_manager_build.bodyEq : Try.f43.body = some (Try.f43.body.getD .skip) := by kernel_rfl
theorem solve_manager_build.run {a0 : AC} {a1_0 : Int} {a1_1 : Int} {a1_2 : AC} {H : AHeap} {Q : AHeap → Int → Prop} (h : solve_manager_build.W a0 a1_0 a1_1 a1_2 H Q) : Fn.solve_manager_build a0 a1_0 a1_1 a1_2 H Q := by
  unfold Fn.solve_manager_build RunT
  exact run_of aggs_ok [(15, []), (17, [])] Try.func43 solve_manager_build.bodyEq solve_manager_build.slimOk solve_manager_build.resC solve_manager_build.resR (Nat.le_of_ble_eq_true (by kernel_rfl)) (solve_manager_build.ok Q h)

def fetterlockref6_nodes.c9 : RC := (.seq (.seq (.ops [.put 5 (.mov (.tm 4)),
    .put 6 (.fa 2 (.tm 1)),
    .put 7 (.ld false [.ac] (.tm 6)),
    .put 8 (.lens (.tm 7)),
    .put 9 (.cm .lt (.tm 5) (.tm 8))]) (.cond 9 .skip (.exit 0))) (.seq (.block 1 (.ops [.put 12 (.mov (.tm 3)),
    .put 13 (.fa 2 (.tm 1)),
    .put 14 (.ld false [.ac] (.tm 13)),
    .put 15 (.mov (.tm 4)),
    .put 16 (.ia 3 (.tm 14) (.tm 15)),
    .put 17 (.ld true [.int .i64, .int .i64, .ac] (.tm 16)),
    .put 18 (.call 44 [(.tm 17)]),
    .put 19 (.ar .add (.tm 12) (.tm 18)),
    .put 3 (.mov (.tm 19))])) (.ops [.put 10 (.mov (.tm 4)),
    .put 11 (.ar .add (.tm 10) (.ct (.one (.int .i64 1)))),
    .put 4 (.mov (.tm 11))])))
def fetterlockref6_nodes.c : RC := (.seq (.ops [.put 1 (.box 24 (.tm 0)),
    .put 2 (.mov (.ct (.one (.int .i64 0))))]) (.seq (.ops [.put 3 (.mov (.ct (.one (.int .i64 1))))]) (.seq (.seq (.ops [.put 4 (.mov (.ct (.one (.int .i64 0))))]) (.block 0 (.loop fetterlockref6_nodes.c9))) (.seq (.ops [.put 20 (.mov (.tm 3)),
    .put 2 (.mov (.tm 20))]) .ret))))
abbrev fetterlockref6_nodes.KQ (Q : AHeap → Int → Prop) : AV → AHeap → Prop := fun v H => ∃ xs : Tup (flat [(false, [.int .i64])]), v = joinR (splitP [(false, [.int .i64])] (cellsOf (flat [(false, [.int .i64])]) xs)) ∧ app (flat [(false, [.int .i64])]) (Q H) xs
abbrev fetterlockref6_nodes.K (Q : AHeap → Int → Prop) : Ex → Env → AHeap → Prop := kTop [.tm 2] (fetterlockref6_nodes.KQ Q)
abbrev fetterlockref6_nodes.k5 (Q : AHeap → Int → Prop) : Ex → Env → AHeap → Prop := kSeq (fun t H => wpC Try.prog (.seq (.ops [.put 20 (.mov (.tm 3)),
    .put 2 (.mov (.tm 20))]) .ret) t H (fetterlockref6_nodes.K Q)) (fetterlockref6_nodes.K Q)
def fetterlockref6_nodes.R8 (s : Tup [.ac, .int .i64, .int .i64]) (t : Env) : Prop := t 1 = (.one (s.1)) ∧ t 3 = (.one (.int .i64 (s.2.1))) ∧ t 4 = (.one (.int .i64 (s.2.2.1))) ∧ True
def fetterlockref6_nodes.b8 (Q : AHeap → Int → Prop) (Y8 : Tup [.ac, .int .i64, .int .i64] → AHeap → Prop) (x1 : AC) (x3 : Int) (x4 : Int) (H : AHeap) : Prop :=
  FA 2 x1 fun q_1 =>
  Ld [.ac] H q_1 fun (v_2 : AC) =>
  LenS v_2 fun n_3 =>
  CondB (decide (x4 < n_3))
    (FA 2 x1 fun q_4 =>
    Ld [.ac] H q_4 fun (v_5 : AC) =>
    IA 3 v_5 x4 fun q_6 =>
    Ld [.int .i64, .int .i64, .ac] H q_6 fun (v_7 : Int) (v_8 : Int) (v_9 : AC) =>
    Fn.fetterlockref6_nodes v_7 v_8 v_9 H fun H_10 (v_11 : Int) =>
    Y8 (x1, ((IntKind.wrap .i64 (x3 + v_11)) : Int), ((IntKind.wrap .i64 (x4 + 1)) : Int), ()) H_10)
    (Q H x3)
def fetterlockref6_nodes.l8 (Q : AHeap → Int → Prop) (x1 : AC) (x3 : Int) (x4 : Int) (H : AHeap) : Prop := LoopT (Tup [.ac, .int .i64, .int .i64]) (fun Y s H => fetterlockref6_nodes.b8 Q Y (s.1) (s.2.1) (s.2.2.1) H) (x1, x3, x4, ()) H
def fetterlockref6_nodes.W (a0_0 : Int) (a0_1 : Int) (a0_2 : AC) (H : AHeap) (Q : AHeap → Int → Prop) : Prop :=
  New 24 [(.int .i64 a0_0), (.int .i64 a0_1), a0_2] H fun p_1 H_2 =>
  fetterlockref6_nodes.l8 Q p_1 1 0 H_2
theorem fetterlockref6_nodes.b8_ok (Q : AHeap → Int → Prop) (Y8 : Tup [.ac, .int .i64, .int .i64] → AHeap → Prop) (X8 : Env → AHeap → Prop) (hX8 : ∀ s t H, fetterlockref6_nodes.R8 s t → Y8 s H → X8 t H) {x1 : AC} {x3 : Int} {x4 : Int} {H : AHeap} (j : Env) : fetterlockref6_nodes.b8 Q Y8 x1 x3 x4 H → wpC Try.prog fetterlockref6_nodes.c9 (upd (upd (upd j 1 (.one x1)) 3 (.one (.int .i64 x3))) 4 (.one (.int .i64 x4))) H (kSeq X8 (kBlk 0 (fetterlockref6_nodes.k5 Q))) := c_seq (c_seq (c_ops (s_cons (w_put (o_mov rfl (s_cons (w_put (o_fa rfl (fun q_1 => s_cons (w_put (o_ld1 rfl (fun (v_2 : AC) => s_cons (w_put (o_lens rfl (fun n_3 => s_cons (w_put (o_lt rfl rfl (s_nil (k_seq (c_if rfl (c_skip (k_seq (c_seq (c_blk (c_ops (s_cons (w_put (o_mov rfl (s_cons (w_put (o_fa rfl (fun q_4 => s_cons (w_put (o_ld1 rfl (fun (v_5 : AC) => s_cons (w_put (o_mov rfl (s_cons (w_put (o_ia rfl rfl (fun q_6 => s_cons (w_put (o_ld3 rfl (fun (v_7 : Int) (v_8 : Int) (v_9 : AC) => s_cons (w_put (o_call rfl (cv_1 (fun H_10 (v_11 : Int) => s_cons (w_put (o_add rfl rfl (s_cons (w_put (o_mov rfl (s_nil (k_blk (k_seq (c_ops (s_cons (w_put (o_mov rfl (s_cons (w_put (o_add rfl rfl (s_cons (w_put (o_mov rfl (s_nil (k_seq (hX8 _ _ _ ⟨rfl, rfl, rfl, trivial⟩))))))))))))))))))))))))))))))))))))))))))))))))) (c_exit (k_seqE (k_seqE (k_blkH (k_seq (c_seq (c_ops (s_cons (w_put (o_mov rfl (s_cons (w_put (o_mov rfl (s_nil (k_seq (c_ret (k_topR (r_one rfl (r_nil (fun h => ⟨((x3 : Int), ()), rfl, h⟩))))))))))))))))))))))))))))))))))))))))
theorem fetterlockref6_nodes.l8_ok (Q : AHeap → Int → Prop) {x1 : AC} {x3 : Int} {x4 : Int} {H : AHeap} {t : Env} (h1 : t 1 = (.one x1)) (h3 : t 3 = (.one (.int .i64 x3))) (h4 : t 4 = (.one (.int .i64 x4))) : fetterlockref6_nodes.l8 Q x1 x3 x4 H → wpC Try.prog (.loop fetterlockref6_nodes.c9) t H (kBlk 0 (fetterlockref6_nodes.k5 Q)) :=
  m_loop fetterlockref6_nodes.R8 ⟨h1, h3, h4, trivial⟩ fun X Y hX s t H hR hB => by
    have g := fetterlockref6_nodes.b8_ok Q Y X hX t hB
    rw [upd_self hR.1] at g
    rw [upd_self hR.2.1] at g
    rw [upd_self hR.2.2.1] at g
    exact g
theorem fetterlockref6_nodes.ok {a0_0 : Int} {a0_1 : Int} {a0_2 : AC} {H : AHeap} (Q : AHeap → Int → Prop) : fetterlockref6_nodes.W a0_0 a0_1 a0_2 H Q → wpF Try.prog fetterlockref6_nodes.c [.tm 2] (envOf [(.agg [(.int .i64 a0_0), (.int .i64 a0_1), a0_2])]) H (fetterlockref6_nodes.KQ Q) := c_seq (c_ops (s_cons (w_put (o_box rfl (fun p_1 H_2 => s_cons (w_put (o_mov rfl (s_nil (k_seq (c_seq (c_ops (s_cons (w_put (o_mov rfl (s_nil (k_seq (c_seq (c_seq (c_ops (s_cons (w_put (o_mov rfl (s_nil (k_seq (c_blk (fetterlockref6_nodes.l8_ok Q rfl rfl rfl))))))))))))))))))))))))))
theorem fetterlockref6_nodes.slimOk : slimOk [] (Try.f44.body.getD .skip) = true := by kernel_rfl
theorem fetterlockref6_nodes.resC : resC Try.prog aggs Try.f44.ntmps (slim [] (Try.f44.body.getD .skip)) = some fetterlockref6_nodes.c := by kernel_rfl
theorem fetterlockref6_nodes.resR : resR Try.prog Try.f44.results.toList = some [.tm 2] := by kernel_rfl
theorem fetterlockref6_nodes.bodyEq : Try.f44.body = some (Try.f44.body.getD .skip) := by kernel_rfl
theorem fetterlockref6_nodes.run {a0_0 : Int} {a0_1 : Int} {a0_2 : AC} {H : AHeap} {Q : AHeap → Int → Prop} (h : fetterlockref6_nodes.W a0_0 a0_1 a0_2 H Q) : Fn.fetterlockref6_nodes a0_0 a0_1 a0_2 H Q := by
  unfold Fn.fetterlockref6_nodes RunT
  exact run_of aggs_ok [] Try.func44 fetterlockref6_nodes.bodyEq fetterlockref6_nodes.slimOk fetterlockref6_nodes.resC fetterlockref6_nodes.resR (Nat.le_of_ble_eq_true (by kernel_rfl)) (fetterlockref6_nodes.ok Q h)

def fetterlockref6_formulaFault.c63 : RC := (.seq (.seq (.ops [.put 55 (.mov (.tm 5)),
    .put 56 (.fa 2 (.tm 1)),
    .put 57 (.ld false [.ac] (.tm 56)),
    .put 58 (.lens (.tm 57)),
    .put 59 (.cm .lt (.tm 55) (.tm 58))]) (.cond 59 .skip (.exit 0))) (.seq (.block 1 (.seq (.ops [.put 62 (.fa 2 (.tm 1)),
    .put 63 (.ld false [.ac] (.tm 62)),
    .put 64 (.mov (.tm 5)),
    .put 65 (.ia 3 (.tm 63) (.tm 64)),
    .put 66 (.ld true [.int .i64, .int .i64, .ac] (.tm 65)),
    .put 67 (.call 45 [(.tm 66)]),
    .put 6 (.mov (.tm 67))]) (.seq (.ops [.put 68 (.mov (.tm 6)),
    .put 69 (.cm .ne (.tm 68) (.ct (.one (.int .i64 0))))]) (.cond 69 (.seq (.ops [.put 70 (.mov (.tm 6)),
    .put 2 (.mov (.tm 70))]) .ret) .skip)))) (.ops [.put 60 (.mov (.tm 5)),
    .put 61 (.ar .add (.tm 60) (.ct (.one (.int .i64 1)))),
    .put 5 (.mov (.tm 61))])))
def fetterlockref6_formulaFault.c53 : RC := (.cond 54 (.seq (.ops [.put 2 (.mov (.ct (.one (.int .i64 1))))]) .ret) .skip)
def fetterlockref6_formulaFault.c50 : RC := (.seq (.seq (.ops [.put 46 (.fa 1 (.tm 1)),
    .put 47 (.ld false [.int .i64] (.tm 46)),
    .put 48 (.cm .lt (.tm 47) (.ct (.one (.int .i64 0)))),
    .put 49 (.mov (.tm 48)),
    .gput 50 49 false (.fa 1 (.tm 1)),
    .gput 51 49 false (.ld false [.int .i64] (.tm 50)),
    .gput 52 49 false (.mov (.tm 4)),
    .gput 53 49 false (.cm .gt (.tm 51) (.tm 52)),
    .put 54 (.pick (.tm 49) (.ct (.one (.bool true))) (.tm 53))]) fetterlockref6_formulaFault.c53) (.seq (.seq (.ops [.put 5 (.mov (.ct (.one (.int .i64 0))))]) (.block 0 (.loop fetterlockref6_formulaFault.c63))) (.seq (.ops [.put 2 (.mov (.ct (.one (.int .i64 0))))]) .ret)))
def fetterlockref6_formulaFault.c30 : RC := (.seq (.seq (.ops [.put 35 (.fa 2 (.tm 1)),
    .put 36 (.ld false [.ac] (.tm 35)),
    .put 37 (.lens (.tm 36)),
    .put 38 (.mov (.tm 3)),
    .put 39 (.cm .ne (.tm 37) (.tm 38))]) (.cond 39 (.seq (.ops [.put 2 (.mov (.ct (.one (.int .i64 2))))]) .ret) .skip)) (.seq (.ops [.put 4 (.mov (.ct (.one (.int .i64 0))))]) (.seq (.seq (.ops [.put 40 (.fa 0 (.tm 1)),
    .put 41 (.ld false [.int .i64] (.tm 40)),
    .put 42 (.cm .eq (.tm 41) (.ct (.one (.int .i64 1))))]) (.cond 42 (.ops [.put 4 (.mov (.ct (.one (.int .i64 15))))]) (.seq (.ops [.put 43 (.fa 0 (.tm 1)),
    .put 44 (.ld false [.int .i64] (.tm 43)),
    .put 45 (.cm .eq (.tm 44) (.ct (.one (.int .i64 2))))]) (.cond 45 (.ops [.put 4 (.mov (.ct (.one (.int .i64 1))))]) .skip)))) fetterlockref6_formulaFault.c50)))
def fetterlockref6_formulaFault.c15 : RC := (.cond 25 (.ops [.put 3 (.mov (.ct (.one (.int .i64 0))))]) (.seq (.ops [.put 26 (.fa 0 (.tm 1)),
    .put 27 (.ld false [.int .i64] (.tm 26)),
    .put 28 (.cm .eq (.tm 27) (.ct (.one (.int .i64 3))))]) (.cond 28 (.ops [.put 3 (.mov (.ct (.one (.int .i64 1))))]) (.seq (.ops [.put 29 (.fa 0 (.tm 1)),
    .put 30 (.ld false [.int .i64] (.tm 29)),
    .put 31 (.cm .eq (.tm 30) (.ct (.one (.int .i64 6))))]) (.cond 31 (.ops [.put 3 (.mov (.ct (.one (.int .i64 2))))]) (.seq (.ops [.put 32 (.fa 0 (.tm 1)),
    .put 33 (.ld false [.int .i64] (.tm 32)),
    .put 34 (.cm .eq (.tm 33) (.ct (.one (.int .i64 7))))]) (.cond 34 (.ops [.put 3 (.mov (.ct (.one (.int .i64 3))))]) .skip)))))))
def fetterlockref6_formulaFault.c5 : RC := (.cond 14 (.seq (.ops [.put 2 (.mov (.ct (.one (.int .i64 7))))]) .ret) .skip)
def fetterlockref6_formulaFault.c : RC := (.seq (.ops [.put 1 (.box 24 (.tm 0)),
    .put 2 (.mov (.ct (.one (.int .i64 0))))]) (.seq (.seq (.ops [.put 7 (.fa 0 (.tm 1)),
    .put 8 (.ld false [.int .i64] (.tm 7)),
    .put 9 (.cm .lt (.tm 8) (.ct (.one (.int .i64 1)))),
    .put 10 (.mov (.tm 9)),
    .gput 11 10 false (.fa 0 (.tm 1)),
    .gput 12 10 false (.ld false [.int .i64] (.tm 11)),
    .gput 13 10 false (.cm .gt (.tm 12) (.ct (.one (.int .i64 7)))),
    .put 14 (.pick (.tm 10) (.ct (.one (.bool true))) (.tm 13))]) fetterlockref6_formulaFault.c5) (.seq (.ops [.put 15 (.fa 2 (.tm 1)),
    .put 16 (.ld false [.ac] (.tm 15)),
    .put 17 (.lens (.tm 16)),
    .put 3 (.mov (.tm 17))]) (.seq (.seq (.ops [.put 18 (.fa 0 (.tm 1)),
    .put 19 (.ld false [.int .i64] (.tm 18)),
    .put 20 (.cm .eq (.tm 19) (.ct (.one (.int .i64 1)))),
    .put 21 (.mov (.tm 20)),
    .gput 22 21 false (.fa 0 (.tm 1)),
    .gput 23 21 false (.ld false [.int .i64] (.tm 22)),
    .gput 24 21 false (.cm .eq (.tm 23) (.ct (.one (.int .i64 2)))),
    .put 25 (.pick (.tm 21) (.ct (.one (.bool true))) (.tm 24))]) fetterlockref6_formulaFault.c15) fetterlockref6_formulaFault.c30))))
abbrev fetterlockref6_formulaFault.KQ (Q : AHeap → Int → Prop) : AV → AHeap → Prop := fun v H => ∃ xs : Tup (flat [(false, [.int .i64])]), v = joinR (splitP [(false, [.int .i64])] (cellsOf (flat [(false, [.int .i64])]) xs)) ∧ app (flat [(false, [.int .i64])]) (Q H) xs
abbrev fetterlockref6_formulaFault.K (Q : AHeap → Int → Prop) : Ex → Env → AHeap → Prop := kTop [.tm 2] (fetterlockref6_formulaFault.KQ Q)
abbrev fetterlockref6_formulaFault.k3 (Q : AHeap → Int → Prop) : Ex → Env → AHeap → Prop := kSeq (fun t H => wpC Try.prog (.seq (.ops [.put 15 (.fa 2 (.tm 1)),
    .put 16 (.ld false [.ac] (.tm 15)),
    .put 17 (.lens (.tm 16)),
    .put 3 (.mov (.tm 17))]) (.seq (.seq (.ops [.put 18 (.fa 0 (.tm 1)),
    .put 19 (.ld false [.int .i64] (.tm 18)),
    .put 20 (.cm .eq (.tm 19) (.ct (.one (.int .i64 1)))),
    .put 21 (.mov (.tm 20)),
    .gput 22 21 false (.fa 0 (.tm 1)),
    .gput 23 21 false (.ld false [.int .i64] (.tm 22)),
    .gput 24 21 false (.cm .eq (.tm 23) (.ct (.one (.int .i64 2)))),
    .put 25 (.pick (.tm 21) (.ct (.one (.bool true))) (.tm 24))]) fetterlockref6_formulaFault.c15) fetterlockref6_formulaFault.c30)) t H (fetterlockref6_formulaFault.K Q)) (fetterlockref6_formulaFault.K Q)
abbrev fetterlockref6_formulaFault.k13 (Q : AHeap → Int → Prop) : Ex → Env → AHeap → Prop := kSeq (fun t H => wpC Try.prog fetterlockref6_formulaFault.c30 t H (fetterlockref6_formulaFault.K Q)) (fetterlockref6_formulaFault.K Q)
abbrev fetterlockref6_formulaFault.k51 (Q : AHeap → Int → Prop) : Ex → Env → AHeap → Prop := kSeq (fun t H => wpC Try.prog (.seq (.seq (.ops [.put 5 (.mov (.ct (.one (.int .i64 0))))]) (.block 0 (.loop fetterlockref6_formulaFault.c63))) (.seq (.ops [.put 2 (.mov (.ct (.one (.int .i64 0))))]) .ret)) t H (fetterlockref6_formulaFault.K Q)) (fetterlockref6_formulaFault.K Q)
abbrev fetterlockref6_formulaFault.k59 (Q : AHeap → Int → Prop) : Ex → Env → AHeap → Prop := kSeq (fun t H => wpC Try.prog (.seq (.ops [.put 2 (.mov (.ct (.one (.int .i64 0))))]) .ret) t H (fetterlockref6_formulaFault.K Q)) (fetterlockref6_formulaFault.K Q)
def fetterlockref6_formulaFault.R62 (s : Tup [.ac, .int .i64]) (t : Env) : Prop := t 1 = (.one (s.1)) ∧ t 5 = (.one (.int .i64 (s.2.1))) ∧ True
def fetterlockref6_formulaFault.b62 (Q : AHeap → Int → Prop) (Y62 : Tup [.ac, .int .i64] → AHeap → Prop) (x1 : AC) (x5 : Int) (H : AHeap) : Prop :=
  FA 2 x1 fun q_1 =>
  Ld [.ac] H q_1 fun (v_2 : AC) =>
  LenS v_2 fun n_3 =>
  CondB (decide (x5 < n_3))
    (FA 2 x1 fun q_4 =>
    Ld [.ac] H q_4 fun (v_5 : AC) =>
    IA 3 v_5 x5 fun q_6 =>
    Ld [.int .i64, .int .i64, .ac] H q_6 fun (v_7 : Int) (v_8 : Int) (v_9 : AC) =>
    Fn.fetterlockref6_formulaFault v_7 v_8 v_9 H fun H_10 (v_11 : Int) =>
    CondB (v_11 != 0)
      (Q H_10 v_11)
      (Y62 (x1, ((IntKind.wrap .i64 (x5 + 1)) : Int), ()) H_10))
    (Q H 0)
def fetterlockref6_formulaFault.l62 (Q : AHeap → Int → Prop) (x1 : AC) (x5 : Int) (H : AHeap) : Prop := LoopT (Tup [.ac, .int .i64]) (fun Y s H => fetterlockref6_formulaFault.b62 Q Y (s.1) (s.2.1) H) (x1, x5, ()) H
def fetterlockref6_formulaFault.p53 (Q : AHeap → Int → Prop) (x1 : AC) (x54 : Bool) (H : AHeap) : Prop :=
  CondB x54
    (Q H 1)
    (fetterlockref6_formulaFault.l62 Q x1 0 H)
def fetterlockref6_formulaFault.p50 (Q : AHeap → Int → Prop) (x1 : AC) (x4 : Int) (H : AHeap) : Prop :=
  FA 1 x1 fun q_1 =>
  Ld [.int .i64] H q_1 fun (v_2 : Int) =>
  CondB (decide (v_2 < 0))
    (fetterlockref6_formulaFault.p53 Q x1 true H)
    (FA 1 x1 fun q_3 =>
    Ld [.int .i64] H q_3 fun (v_4 : Int) =>
    fetterlockref6_formulaFault.p53 Q x1 (decide (v_4 > x4)) H)
def fetterlockref6_formulaFault.p30 (Q : AHeap → Int → Prop) (x1 : AC) (x3 : Int) (H : AHeap) : Prop :=
  FA 2 x1 fun q_1 =>
  Ld [.ac] H q_1 fun (v_2 : AC) =>
  LenS v_2 fun n_3 =>
  CondB (n_3 != x3)
    (Q H 2)
    (FA 0 x1 fun q_4 =>
    Ld [.int .i64] H q_4 fun (v_5 : Int) =>
    CondB (v_5 == 1)
      (fetterlockref6_formulaFault.p50 Q x1 15 H)
      (FA 0 x1 fun q_6 =>
      Ld [.int .i64] H q_6 fun (v_7 : Int) =>
      CondB (v_7 == 2)
        (fetterlockref6_formulaFault.p50 Q x1 1 H)
        (fetterlockref6_formulaFault.p50 Q x1 0 H)))
def fetterlockref6_formulaFault.p15 (Q : AHeap → Int → Prop) (x1 : AC) (x3 : Int) (x25 : Bool) (H : AHeap) : Prop :=
  CondB x25
    (fetterlockref6_formulaFault.p30 Q x1 0 H)
    (FA 0 x1 fun q_1 =>
    Ld [.int .i64] H q_1 fun (v_2 : Int) =>
    CondB (v_2 == 3)
      (fetterlockref6_formulaFault.p30 Q x1 1 H)
      (FA 0 x1 fun q_3 =>
      Ld [.int .i64] H q_3 fun (v_4 : Int) =>
      CondB (v_4 == 6)
        (fetterlockref6_formulaFault.p30 Q x1 2 H)
        (FA 0 x1 fun q_5 =>
        Ld [.int .i64] H q_5 fun (v_6 : Int) =>
        CondB (v_6 == 7)
          (fetterlockref6_formulaFault.p30 Q x1 3 H)
          (fetterlockref6_formulaFault.p30 Q x1 x3 H))))
def fetterlockref6_formulaFault.p5 (Q : AHeap → Int → Prop) (x1 : AC) (x14 : Bool) (H : AHeap) : Prop :=
  CondB x14
    (Q H 7)
    (FA 2 x1 fun q_1 =>
    Ld [.ac] H q_1 fun (v_2 : AC) =>
    LenS v_2 fun n_3 =>
    FA 0 x1 fun q_4 =>
    Ld [.int .i64] H q_4 fun (v_5 : Int) =>
    CondB (v_5 == 1)
      (fetterlockref6_formulaFault.p15 Q x1 n_3 true H)
      (FA 0 x1 fun q_6 =>
      Ld [.int .i64] H q_6 fun (v_7 : Int) =>
      fetterlockref6_formulaFault.p15 Q x1 n_3 (v_7 == 2) H))
def fetterlockref6_formulaFault.W (a0_0 : Int) (a0_1 : Int) (a0_2 : AC) (H : AHeap) (Q : AHeap → Int → Prop) : Prop :=
  New 24 [(.int .i64 a0_0), (.int .i64 a0_1), a0_2] H fun p_1 H_2 =>
  FA 0 p_1 fun q_3 =>
  Ld [.int .i64] H_2 q_3 fun (v_4 : Int) =>
  CondB (decide (v_4 < 1))
    (fetterlockref6_formulaFault.p5 Q p_1 true H_2)
    (FA 0 p_1 fun q_5 =>
    Ld [.int .i64] H_2 q_5 fun (v_6 : Int) =>
    fetterlockref6_formulaFault.p5 Q p_1 (decide (v_6 > 7)) H_2)
theorem fetterlockref6_formulaFault.b62_ok (Q : AHeap → Int → Prop) (Y62 : Tup [.ac, .int .i64] → AHeap → Prop) (X62 : Env → AHeap → Prop) (hX62 : ∀ s t H, fetterlockref6_formulaFault.R62 s t → Y62 s H → X62 t H) {x1 : AC} {x5 : Int} {H : AHeap} (j : Env) : fetterlockref6_formulaFault.b62 Q Y62 x1 x5 H → wpC Try.prog fetterlockref6_formulaFault.c63 (upd (upd j 1 (.one x1)) 5 (.one (.int .i64 x5))) H (kSeq X62 (kBlk 0 (fetterlockref6_formulaFault.k59 Q))) := c_seq (c_seq (c_ops (s_cons (w_put (o_mov rfl (s_cons (w_put (o_fa rfl (fun q_1 => s_cons (w_put (o_ld1 rfl (fun (v_2 : AC) => s_cons (w_put (o_lens rfl (fun n_3 => s_cons (w_put (o_lt rfl rfl (s_nil (k_seq (c_if rfl (c_skip (k_seq (c_seq (c_blk (c_seq (c_ops (s_cons (w_put (o_fa rfl (fun q_4 => s_cons (w_put (o_ld1 rfl (fun (v_5 : AC) => s_cons (w_put (o_mov rfl (s_cons (w_put (o_ia rfl rfl (fun q_6 => s_cons (w_put (o_ld3 rfl (fun (v_7 : Int) (v_8 : Int) (v_9 : AC) => s_cons (w_put (o_call rfl (cv_1 (fun H_10 (v_11 : Int) => s_cons (w_put (o_mov rfl (s_nil (k_seq (c_seq (c_ops (s_cons (w_put (o_mov rfl (s_cons (w_put (o_ne rfl rfl (s_nil (k_seq (c_if rfl (c_seq (c_ops (s_cons (w_put (o_mov rfl (s_cons (w_put (o_mov rfl (s_nil (k_seq (c_ret (k_blkR (k_seqR (k_seqR (k_blkR (k_seqR (k_topR (r_one rfl (r_nil (fun h => ⟨((v_11 : Int), ()), rfl, h⟩)))))))))))))))))))) (c_skip (k_blk (k_seq (c_ops (s_cons (w_put (o_mov rfl (s_cons (w_put (o_add rfl rfl (s_cons (w_put (o_mov rfl (s_nil (k_seq (hX62 _ _ _ ⟨rfl, rfl, trivial⟩))))))))))))))))))))))))))))))))))))))))))))))))))))))))) (c_exit (k_seqE (k_seqE (k_blkH (k_seq (c_seq (c_ops (s_cons (w_put (o_mov rfl (s_nil (k_seq (c_ret (k_topR (r_one rfl (r_nil (fun h => ⟨((0 : Int), ()), rfl, h⟩)))))))))))))))))))))))))))))))))))))
theorem fetterlockref6_formulaFault.l62_ok (Q : AHeap → Int → Prop) {x1 : AC} {x5 : Int} {H : AHeap} {t : Env} (h1 : t 1 = (.one x1)) (h5 : t 5 = (.one (.int .i64 x5))) : fetterlockref6_formulaFault.l62 Q x1 x5 H → wpC Try.prog (.loop fetterlockref6_formulaFault.c63) t H (kBlk 0 (fetterlockref6_formulaFault.k59 Q)) :=
  m_loop fetterlockref6_formulaFault.R62 ⟨h1, h5, trivial⟩ fun X Y hX s t H hR hB => by
    have g := fetterlockref6_formulaFault.b62_ok Q Y X hX t hB
    rw [upd_self hR.1] at g
    rw [upd_self hR.2.1] at g
    exact g
theorem fetterlockref6_formulaFault.p53_okE (Q : AHeap → Int → Prop) {x1 : AC} {x54 : Bool} {H : AHeap} (j : Env) : fetterlockref6_formulaFault.p53 Q x1 x54 H → wpC Try.prog fetterlockref6_formulaFault.c53 (upd (upd j 1 (.one x1)) 54 (.one (.bool x54))) H (fetterlockref6_formulaFault.k51 Q) := c_if rfl (c_seq (c_ops (s_cons (w_put (o_mov rfl (s_nil (k_seq (c_ret (k_seqR (k_topR (r_one rfl (r_nil (fun h => ⟨((1 : Int), ()), rfl, h⟩))))))))))))) (c_skip (k_seq (c_seq (c_seq (c_ops (s_cons (w_put (o_mov rfl (s_nil (k_seq (c_blk (fetterlockref6_formulaFault.l62_ok Q rfl rfl))))))))))))
theorem fetterlockref6_formulaFault.p53_ok (Q : AHeap → Int → Prop) {x1 : AC} {x54 : Bool} {H : AHeap} {t : Env} (h1 : t 1 = (.one x1)) (h54 : t 54 = (.one (.bool x54))) (h : fetterlockref6_formulaFault.p53 Q x1 x54 H) : wpC Try.prog fetterlockref6_formulaFault.c53 t H (fetterlockref6_formulaFault.k51 Q) := by
  have g := fetterlockref6_formulaFault.p53_okE Q t h
  rw [upd_self h1] at g
  rw [upd_self h54] at g
  exact g
theorem fetterlockref6_formulaFault.p50_okE (Q : AHeap → Int → Prop) {x1 : AC} {x4 : Int} {H : AHeap} (j : Env) : fetterlockref6_formulaFault.p50 Q x1 x4 H → wpC Try.prog fetterlockref6_formulaFault.c50 (upd (upd j 1 (.one x1)) 4 (.one (.int .i64 x4))) H (fetterlockref6_formulaFault.K Q) := c_seq (c_seq (c_ops (s_cons (w_put (o_fa rfl (fun q_1 => s_cons (w_put (o_ld1 rfl (fun (v_2 : Int) => s_cons (w_put (o_lt rfl rfl (s_cons (w_put (o_mov rfl (s_cons (w_gputF rfl (s_cons (w_gputN rfl (s_cons (w_gputN rfl (s_cons (w_gputN rfl (s_cons (w_put (o_pickT rfl rfl (s_nil (k_seq (fetterlockref6_formulaFault.p53_ok Q rfl rfl)))))))))))) (o_fa rfl (fun q_3 => s_cons (w_gputY rfl (o_ld1 rfl (fun (v_4 : Int) => s_cons (w_gputY rfl (o_mov rfl (s_cons (w_gputY rfl (o_gt rfl rfl (s_cons (w_put (o_pickF rfl rfl (s_nil (k_seq (fetterlockref6_formulaFault.p53_ok Q rfl rfl))))))))))))))))))))))))))))))))
theorem fetterlockref6_formulaFault.p50_ok (Q : AHeap → Int → Prop) {x1 : AC} {x4 : Int} {H : AHeap} {t : Env} (h1 : t 1 = (.one x1)) (h4 : t 4 = (.one (.int .i64 x4))) (h : fetterlockref6_formulaFault.p50 Q x1 x4 H) : wpC Try.prog fetterlockref6_formulaFault.c50 t H (fetterlockref6_formulaFault.K Q) := by
  have g := fetterlockref6_formulaFault.p50_okE Q t h
  rw [upd_self h1] at g
  rw [upd_self h4] at g
  exact g
theorem fetterlockref6_formulaFault.p30_okE (Q : AHeap → Int → Prop) {x1 : AC} {x3 : Int} {H : AHeap} (j : Env) : fetterlockref6_formulaFault.p30 Q x1 x3 H → wpC Try.prog fetterlockref6_formulaFault.c30 (upd (upd j 1 (.one x1)) 3 (.one (.int .i64 x3))) H (fetterlockref6_formulaFault.K Q) := c_seq (c_seq (c_ops (s_cons (w_put (o_fa rfl (fun q_1 => s_cons (w_put (o_ld1 rfl (fun (v_2 : AC) => s_cons (w_put (o_lens rfl (fun n_3 => s_cons (w_put (o_mov rfl (s_cons (w_put (o_ne rfl rfl (s_nil (k_seq (c_if rfl (c_seq (c_ops (s_cons (w_put (o_mov rfl (s_nil (k_seq (c_ret (k_seqR (k_topR (r_one rfl (r_nil (fun h => ⟨((2 : Int), ()), rfl, h⟩))))))))))))) (c_skip (k_seq (c_seq (c_ops (s_cons (w_put (o_mov rfl (s_nil (k_seq (c_seq (c_seq (c_ops (s_cons (w_put (o_fa rfl (fun q_4 => s_cons (w_put (o_ld1 rfl (fun (v_5 : Int) => s_cons (w_put (o_eq rfl rfl (s_nil (k_seq (c_if rfl (c_ops (s_cons (w_put (o_mov rfl (s_nil (k_seq (fetterlockref6_formulaFault.p50_ok Q rfl rfl))))))) (c_seq (c_ops (s_cons (w_put (o_fa rfl (fun q_6 => s_cons (w_put (o_ld1 rfl (fun (v_7 : Int) => s_cons (w_put (o_eq rfl rfl (s_nil (k_seq (c_if rfl (c_ops (s_cons (w_put (o_mov rfl (s_nil (k_seq (fetterlockref6_formulaFault.p50_ok Q rfl rfl))))))) (c_skip (k_seq (fetterlockref6_formulaFault.p50_ok Q rfl rfl)))))))))))))))))))))))))))))))))))))))))))))))))))))))))))))
theorem fetterlockref6_formulaFault.p30_ok (Q : AHeap → Int → Prop) {x1 : AC} {x3 : Int} {H : AHeap} {t : Env} (h1 : t 1 = (.one x1)) (h3 : t 3 = (.one (.int .i64 x3))) (h : fetterlockref6_formulaFault.p30 Q x1 x3 H) : wpC Try.prog fetterlockref6_formulaFault.c30 t H (fetterlockref6_formulaFault.K Q) := by
  have g := fetterlockref6_formulaFault.p30_okE Q t h
  rw [upd_self h1] at g
  rw [upd_self h3] at g
  exact g
theorem fetterlockref6_formulaFault.p15_okE (Q : AHeap → Int → Prop) {x1 : AC} {x3 : Int} {x25 : Bool} {H : AHeap} (j : Env) : fetterlockref6_formulaFault.p15 Q x1 x3 x25 H → wpC Try.prog fetterlockref6_formulaFault.c15 (upd (upd (upd j 1 (.one x1)) 3 (.one (.int .i64 x3))) 25 (.one (.bool x25))) H (fetterlockref6_formulaFault.k13 Q) := c_if rfl (c_ops (s_cons (w_put (o_mov rfl (s_nil (k_seq (fetterlockref6_formulaFault.p30_ok Q rfl rfl))))))) (c_seq (c_ops (s_cons (w_put (o_fa rfl (fun q_1 => s_cons (w_put (o_ld1 rfl (fun (v_2 : Int) => s_cons (w_put (o_eq rfl rfl (s_nil (k_seq (c_if rfl (c_ops (s_cons (w_put (o_mov rfl (s_nil (k_seq (fetterlockref6_formulaFault.p30_ok Q rfl rfl))))))) (c_seq (c_ops (s_cons (w_put (o_fa rfl (fun q_3 => s_cons (w_put (o_ld1 rfl (fun (v_4 : Int) => s_cons (w_put (o_eq rfl rfl (s_nil (k_seq (c_if rfl (c_ops (s_cons (w_put (o_mov rfl (s_nil (k_seq (fetterlockref6_formulaFault.p30_ok Q rfl rfl))))))) (c_seq (c_ops (s_cons (w_put (o_fa rfl (fun q_5 => s_cons (w_put (o_ld1 rfl (fun (v_6 : Int) => s_cons (w_put (o_eq rfl rfl (s_nil (k_seq (c_if rfl (c_ops (s_cons (w_put (o_mov rfl (s_nil (k_seq (fetterlockref6_formulaFault.p30_ok Q rfl rfl))))))) (c_skip (k_seq (fetterlockref6_formulaFault.p30_ok Q rfl rfl)))))))))))))))))))))))))))))))))))))))))))))
theorem fetterlockref6_formulaFault.p15_ok (Q : AHeap → Int → Prop) {x1 : AC} {x3 : Int} {x25 : Bool} {H : AHeap} {t : Env} (h1 : t 1 = (.one x1)) (h3 : t 3 = (.one (.int .i64 x3))) (h25 : t 25 = (.one (.bool x25))) (h : fetterlockref6_formulaFault.p15 Q x1 x3 x25 H) : wpC Try.prog fetterlockref6_formulaFault.c15 t H (fetterlockref6_formulaFault.k13 Q) := by
  have g := fetterlockref6_formulaFault.p15_okE Q t h
  rw [upd_self h1] at g
  rw [upd_self h3] at g
  rw [upd_self h25] at g
  exact g
theorem fetterlockref6_formulaFault.p5_okE (Q : AHeap → Int → Prop) {x1 : AC} {x14 : Bool} {H : AHeap} (j : Env) : fetterlockref6_formulaFault.p5 Q x1 x14 H → wpC Try.prog fetterlockref6_formulaFault.c5 (upd (upd j 1 (.one x1)) 14 (.one (.bool x14))) H (fetterlockref6_formulaFault.k3 Q) := c_if rfl (c_seq (c_ops (s_cons (w_put (o_mov rfl (s_nil (k_seq (c_ret (k_seqR (k_topR (r_one rfl (r_nil (fun h => ⟨((7 : Int), ()), rfl, h⟩))))))))))))) (c_skip (k_seq (c_seq (c_ops (s_cons (w_put (o_fa rfl (fun q_1 => s_cons (w_put (o_ld1 rfl (fun (v_2 : AC) => s_cons (w_put (o_lens rfl (fun n_3 => s_cons (w_put (o_mov rfl (s_nil (k_seq (c_seq (c_seq (c_ops (s_cons (w_put (o_fa rfl (fun q_4 => s_cons (w_put (o_ld1 rfl (fun (v_5 : Int) => s_cons (w_put (o_eq rfl rfl (s_cons (w_put (o_mov rfl (s_cons (w_gputF rfl (s_cons (w_gputN rfl (s_cons (w_gputN rfl (s_cons (w_put (o_pickT rfl rfl (s_nil (k_seq (fetterlockref6_formulaFault.p15_ok Q rfl rfl rfl)))))))))) (o_fa rfl (fun q_6 => s_cons (w_gputY rfl (o_ld1 rfl (fun (v_7 : Int) => s_cons (w_gputY rfl (o_eq rfl rfl (s_cons (w_put (o_pickF rfl rfl (s_nil (k_seq (fetterlockref6_formulaFault.p15_ok Q rfl rfl rfl))))))))))))))))))))))))))))))))))))))))))))))))
theorem fetterlockref6_formulaFault.p5_ok (Q : AHeap → Int → Prop) {x1 : AC} {x14 : Bool} {H : AHeap} {t : Env} (h1 : t 1 = (.one x1)) (h14 : t 14 = (.one (.bool x14))) (h : fetterlockref6_formulaFault.p5 Q x1 x14 H) : wpC Try.prog fetterlockref6_formulaFault.c5 t H (fetterlockref6_formulaFault.k3 Q) := by
  have g := fetterlockref6_formulaFault.p5_okE Q t h
  rw [upd_self h1] at g
  rw [upd_self h14] at g
  exact g
theorem fetterlockref6_formulaFault.ok {a0_0 : Int} {a0_1 : Int} {a0_2 : AC} {H : AHeap} (Q : AHeap → Int → Prop) : fetterlockref6_formulaFault.W a0_0 a0_1 a0_2 H Q → wpF Try.prog fetterlockref6_formulaFault.c [.tm 2] (envOf [(.agg [(.int .i64 a0_0), (.int .i64 a0_1), a0_2])]) H (fetterlockref6_formulaFault.KQ Q) := c_seq (c_ops (s_cons (w_put (o_box rfl (fun p_1 H_2 => s_cons (w_put (o_mov rfl (s_nil (k_seq (c_seq (c_seq (c_ops (s_cons (w_put (o_fa rfl (fun q_3 => s_cons (w_put (o_ld1 rfl (fun (v_4 : Int) => s_cons (w_put (o_lt rfl rfl (s_cons (w_put (o_mov rfl (s_cons (w_gputF rfl (s_cons (w_gputN rfl (s_cons (w_gputN rfl (s_cons (w_put (o_pickT rfl rfl (s_nil (k_seq (fetterlockref6_formulaFault.p5_ok Q rfl rfl)))))))))) (o_fa rfl (fun q_5 => s_cons (w_gputY rfl (o_ld1 rfl (fun (v_6 : Int) => s_cons (w_gputY rfl (o_gt rfl rfl (s_cons (w_put (o_pickF rfl rfl (s_nil (k_seq (fetterlockref6_formulaFault.p5_ok Q rfl rfl)))))))))))))))))))))))))))))))))))))))
theorem fetterlockref6_formulaFault.slimOk : slimOk [] (Try.f45.body.getD .skip) = true := by kernel_rfl
theorem fetterlockref6_formulaFault.resC : resC Try.prog aggs Try.f45.ntmps (slim [] (Try.f45.body.getD .skip)) = some fetterlockref6_formulaFault.c := by kernel_rfl
theorem fetterlockref6_formulaFault.resR : resR Try.prog Try.f45.results.toList = some [.tm 2] := by kernel_rfl
theorem fetterlockref6_formulaFault.bodyEq : Try.f45.body = some (Try.f45.body.getD .skip) := by kernel_rfl
theorem fetterlockref6_formulaFault.run {a0_0 : Int} {a0_1 : Int} {a0_2 : AC} {H : AHeap} {Q : AHeap → Int → Prop} (h : fetterlockref6_formulaFault.W a0_0 a0_1 a0_2 H Q) : Fn.fetterlockref6_formulaFault a0_0 a0_1 a0_2 H Q := by
  unfold Fn.fetterlockref6_formulaFault RunT
  exact run_of aggs_ok [] Try.func45 fetterlockref6_formulaFault.bodyEq fetterlockref6_formulaFault.slimOk fetterlockref6_formulaFault.resC fetterlockref6_formulaFault.resR (Nat.le_of_ble_eq_true (by kernel_rfl)) (fetterlockref6_formulaFault.ok Q h)
end Go.Proofs.Ytanaaabejeeakaa
end
section
/- What the functions on formulas come to. -/
namespace Go.Proofs.Ytanaaabejeeakaa
open Go.AI

theorem nodes_c : ∀ (n : Nat) {op var : Int} {s : AC} {f : Fm} {H : AHeap}, f.size ≤ n → f.size < 4611686018427387904 → FmAt H op var s f →
    Fn.fetterlockref6_nodes op var s H fun H' r => r = (f.size : Int) ∧ Kp H H' := by
  intro n
  induction n with
  | zero => intro op var s f H hn; have := f.size_pos; omega
  | succ n ih =>
    intro op var s f H hn hmax hf
    obtain ⟨kids, rows, rfl, hl, hs, hk⟩ := hf.inv
    have hsz : Fm.size (.mk op var kids) = Fm.sizes kids + 1 := by rw [Fm.size]
    have hlen := Fm.sizes_len kids
    refine fetterlockref6_nodes.run ?_
    unfold fetterlockref6_nodes.W
    refine New.own fun b H1 hb hs1 ho hkp => ?_
    unfold fetterlockref6_nodes.l8
    refine LoopT.rule (fun m s0 H2 => ∃ i : Nat, i ≤ kids.length ∧ m = kids.length - i ∧ s0 = (.ptr (some (b, 0)), ((Fm.sizes (kids.take i) + 1 : Nat) : Int), (i : Int), ()) ∧ Kp H H2 ∧ Own H2 b [.int .i64 op, .int .i64 var, s]) kids.length
      ⟨0, by omega, by omega, by simp [Fm.sizes]; rfl, hkp, ho⟩ ?_
    rintro m s0 H2 back ⟨i, hi, rfl, rfl, hkp2, ho2⟩ hback
    simp only [fetterlockref6_nodes.b8]
    refine FA.mk (Ld.oc ho2 rfl (LenS.of (hs.kp hkp2) ?_))
    rw [List.length_map, hl]
    refine CondB.dec (fun hlt => ?_) fun hge => ?_
    · have hlt' : i < kids.length := by omega
      obtain ⟨k, hki⟩ : ∃ k, kids[i]? = some k := ⟨_, List.getElem?_eq_getElem hlt'⟩
      obtain ⟨r, hri⟩ : ∃ r, rows[i]? = some r := ⟨_, List.getElem?_eq_getElem (by omega)⟩
      refine FA.mk (Ld.oc ho2 rfl (IA.of (hs.kp hkp2) (by omega) (r := [.int .i64 r.1, .int .i64 r.2.1, r.2.2]) (by simp [hri]) fun b' o' hld => ?_))
      refine Ld.all hld (r.1, r.2.1, r.2.2, ()) rfl rfl ?_
      have hle := Fm.size_mem kids i k hki
      have htk := Fm.sizes_take kids i k hki
      have htl := Fm.sizes_le kids (i + 1)
      refine RunT.imp ?_ (ih (by omega) (by omega) ((hk i r k hri hki).kp hkp2))
      rintro H3 v ⟨rfl, hkp3⟩
      refine hback (kids.length - (i + 1)) _ _ (by omega) ⟨i + 1, by omega, rfl, ?_, hkp2.trans hkp3, ho2.kp hkp3⟩
      exact tc rfl (tc ((wrap64 (by omega) (by omega)).trans (by rw [htk]; omega)) (tc ((wrap64 (by omega) (by omega)).trans (by omega)) rfl))
    · have : i = kids.length := by omega
      subst this
      refine ⟨?_, hkp2⟩
      rw [List.take_of_length_le (Nat.le_refl _), hsz]
end Go.Proofs.Ytanaaabejeeakaa
end
section
/- Printed by a program: functions and what must hold ahead of them. -/
namespace Go.Proofs.Ytanaaabejeeakaa
open Go.AI
set_option maxRecDepth 100000
set_option maxHeartbeats 2000000
set_option linter.unusedVariables false
attribute [local irreducible] Ld Sto New NewS NewM NN NZ GE0 FA IA IAP LenS Slc App Cpy Clr MkS Fnc NilQ IxS Look MSet Run CV RunT CVT LoopT Same1 Same2 wpC wpOs wpT wpO wpOp

def solve_Build.c : RC := (.seq (.ops [.put 1 (.box 24 (.tm 0)),
    .put 2 (.new 27 [(.sl none 0 0 (some 0)), (.int .i64 0)]),
    .put 3 (.mov (.ct (.one (.int .i64 0))))]) (.seq (.seq (.ops [.put 6 (.ld true [.int .i64, .int .i64, .ac] (.tm 1)),
    .put 7 (.call 15 [(.tm 6)]),
    .put 4 (.mov (.tm 7))]) (.seq (.ops [.put 8 (.mov (.tm 4)),
    .put 9 (.cm .ne (.tm 8) (.ct (.one (.int .i64 0))))]) (.cond 9 (.seq (.ops [.put 10 (.bld [(.sl none 0 0 (some 0)), (.int .i64 0)] []),
    .put 11 (.mov (.tm 4)),
    .run (.st 2 (.tm 2) (.tm 10)),
    .put 3 (.mov (.tm 11))]) .ret) .skip))) (.seq (.ops [.put 12 (.call 41 []),
    .put 5 (.mov (.tm 12))]) (.seq (.ops [.put 13 (.mov (.tm 5)),
    .put 14 (.mov (.tm 5)),
    .put 15 (.ld true [.int .i64, .int .i64, .ac] (.tm 1)),
    .put 16 (.call 43 [(.tm 14), (.tm 15)]),
    .put 17 (.call 42 [(.tm 13), (.tm 16)]),
    .put 18 (.ex (.tm 17) 0),
    .put 19 (.ex (.tm 17) 1),
    .run (.st 2 (.tm 2) (.tm 18)),
    .put 3 (.mov (.tm 19))]) .ret))))
abbrev solve_Build.KQ (Q : AHeap → AC → Int → Int → Prop) : AV → AHeap → Prop := fun v H => ∃ xs : Tup (flat [(true, [.ac, .int .i64]), (false, [.int .i64])]), v = joinR (splitP [(true, [.ac, .int .i64]), (false, [.int .i64])] (cellsOf (flat [(true, [.ac, .int .i64]), (false, [.int .i64])]) xs)) ∧ app (flat [(true, [.ac, .int .i64]), (false, [.int .i64])]) (Q H) xs
abbrev solve_Build.K (Q : AHeap → AC → Int → Int → Prop) : Ex → Env → AHeap → Prop := kTop [.cell 2 true [.ac, .int .i64], .tm 3] (solve_Build.KQ Q)
def solve_Build.W (a0_0 : Int) (a0_1 : Int) (a0_2 : AC) (H : AHeap) (Q : AHeap → AC → Int → Int → Prop) : Prop :=
  New 24 [(.int .i64 a0_0), (.int .i64 a0_1), a0_2] H fun p_1 H_2 =>
  New 27 [(.sl none 0 0 (some 0)), (.int .i64 0)] H_2 fun p_3 H_4 =>
  Ld [.int .i64, .int .i64, .ac] H_4 p_1 fun (v_5 : Int) (v_6 : Int) (v_7 : AC) =>
  Fn.solve_CheckBool v_5 v_6 v_7 H_4 fun H_8 (v_9 : Int) =>
  CondB (v_9 != 0)
    (Sto H_8 p_3 [(.sl none 0 0 (some 0)), (.int .i64 0)] fun H_10 =>
    Ld [.ac, .int .i64] H_10 p_3 fun (r0_11 : AC) (r1_12 : Int) =>
    Q H_10 r0_11 r1_12 v_9)
    (Fn.solve_newManager  H_8 fun H_13 (v_14 : AC) =>
    Ld [.int .i64, .int .i64, .ac] H_13 p_1 fun (v_15 : Int) (v_16 : Int) (v_17 : AC) =>
    Fn.solve_manager_build v_14 v_15 v_16 v_17 H_13 fun H_18 (v_19 : Int) =>
    Fn.solve_manager_result v_14 v_19 H_18 fun H_20 (v_21 : AC) (v_22 : Int) (v_23 : Int) =>
    Sto H_20 p_3 [v_21, (.int .i64 v_22)] fun H_24 =>
    Ld [.ac, .int .i64] H_24 p_3 fun (r0_25 : AC) (r1_26 : Int) =>
    Q H_24 r0_25 r1_26 v_23)
theorem solve_Build.ok {a0_0 : Int} {a0_1 : Int} {a0_2 : AC} {H : AHeap} (Q : AHeap → AC → Int → Int → Prop) : solve_Build.W a0_0 a0_1 a0_2 H Q → wpF Try.prog solve_Build.c [.cell 2 true [.ac, .int .i64], .tm 3] (envOf [(.agg [(.int .i64 a0_0), (.int .i64 a0_1), a0_2])]) H (solve_Build.KQ Q) := c_seq (c_ops (s_cons (w_put (o_box rfl (fun p_1 H_2 => s_cons (w_put (o_new (fun p_3 H_4 => s_cons (w_put (o_mov rfl (s_nil (k_seq (c_seq (c_seq (c_ops (s_cons (w_put (o_ld3 rfl (fun (v_5 : Int) (v_6 : Int) (v_7 : AC) => s_cons (w_put (o_call rfl (cv_1 (fun H_8 (v_9 : Int) => s_cons (w_put (o_mov rfl (s_nil (k_seq (c_seq (c_ops (s_cons (w_put (o_mov rfl (s_cons (w_put (o_ne rfl rfl (s_nil (k_seq (c_if rfl (c_seq (c_ops (s_cons (w_put (o_bld rfl (s_cons (w_put (o_mov rfl (s_cons (w_run (o_st rfl rfl rfl (fun H_10 => s_cons (w_put (o_mov rfl (s_nil (k_seq (c_ret (k_seqR (k_topR (r_cell2 rfl (fun (r0_11 : AC) (r1_12 : Int) => r_one rfl (r_nil (fun h => ⟨(r0_11, (r1_12 : Int), (v_9 : Int), ()), rfl, h⟩))))))))))))))))))))))) (c_skip (k_seq (c_seq (c_ops (s_cons (w_put (o_call rfl (cv_1 (fun H_13 (v_14 : AC) => s_cons (w_put (o_mov rfl (s_nil (k_seq (c_seq (c_ops (s_cons (w_put (o_mov rfl (s_cons (w_put (o_mov rfl (s_cons (w_put (o_ld3 rfl (fun (v_15 : Int) (v_16 : Int) (v_17 : AC) => s_cons (w_put (o_call rfl (cv_1 (fun H_18 (v_19 : Int) => s_cons (w_put (o_call rfl (cv_a2_o1 (fun H_20 (v_21 : AC) (v_22 : Int) (v_23 : Int) => s_cons (w_put (o_ex rfl rfl rfl (s_cons (w_put (o_ex rfl rfl rfl (s_cons (w_run (o_st rfl rfl rfl (fun H_24 => s_cons (w_put (o_mov rfl (s_nil (k_seq (c_ret (k_topR (r_cell2 rfl (fun (r0_25 : AC) (r1_26 : Int) => r_one rfl (r_nil (fun h => ⟨(r0_25, (r1_26 : Int), (v_23 : Int), ()), rfl, h⟩))))))))))))))))))))))))))))))))))))))))))))))))))))))))))))))))))))))))))))))))))))))))))
theorem solve_Build.slimOk : slimOk [] (Try.f13.body.getD .skip) = true := by kernel_rfl
theorem solve_Build.resC : resC Try.prog aggs Try.f13.ntmps (slim [] (Try.f13.body.getD .skip)) = some solve_Build.c := by kernel_rfl
theorem solve_Build.resR : resR Try.prog Try.f13.results.toList = some [.cell 2 true [.ac, .int .i64], .tm 3] := by kernel_rfl
theorem solve_Build.bodyEq : Try.f13.body = some (Try.f13.body.getD .skip) := by kernel_rfl
theorem solve_Build.run {a0_0 : Int} {a0_1 : Int} {a0_2 : AC} {H : AHeap} {Q : AHeap → AC → Int → Int → Prop} (h : solve_Build.W a0_0 a0_1 a0_2 H Q) : Fn.solve_Build a0_0 a0_1 a0_2 H Q := by
  unfold Fn.solve_Build RunT
  exact run_of aggs_ok [] Try.func13 solve_Build.bodyEq solve_Build.slimOk solve_Build.resC solve_Build.resR (Nat.le_of_ble_eq_true (by kernel_rfl)) (solve_Build.ok Q h)

def fetterlockref6_BoolFault.c : RC := (.seq (.ops [.put 1 (.box 24 (.tm 0)),
    .put 2 (.mov (.ct (.one (.int .i64 0))))]) (.seq (.seq (.ops [.put 3 (.ld true [.int .i64, .int .i64, .ac] (.tm 1)),
    .put 4 (.call 44 [(.tm 3)]),
    .put 5 (.cm .gt (.tm 4) (.ct (.one (.int .i64 300))))]) (.cond 5 (.seq (.ops [.put 2 (.mov (.ct (.one (.int .i64 3))))]) .ret) .skip)) (.seq (.ops [.put 6 (.ld true [.int .i64, .int .i64, .ac] (.tm 1)),
    .put 7 (.call 45 [(.tm 6)]),
    .put 2 (.mov (.tm 7))]) .ret)))
abbrev fetterlockref6_BoolFault.KQ (Q : AHeap → Int → Prop) : AV → AHeap → Prop := fun v H => ∃ xs : Tup (flat [(false, [.int .i64])]), v = joinR (splitP [(false, [.int .i64])] (cellsOf (flat [(false, [.int .i64])]) xs)) ∧ app (flat [(false, [.int .i64])]) (Q H) xs
abbrev fetterlockref6_BoolFault.K (Q : AHeap → Int → Prop) : Ex → Env → AHeap → Prop := kTop [.tm 2] (fetterlockref6_BoolFault.KQ Q)
def fetterlockref6_BoolFault.W (a0_0 : Int) (a0_1 : Int) (a0_2 : AC) (H : AHeap) (Q : AHeap → Int → Prop) : Prop :=
  New 24 [(.int .i64 a0_0), (.int .i64 a0_1), a0_2] H fun p_1 H_2 =>
  Ld [.int .i64, .int .i64, .ac] H_2 p_1 fun (v_3 : Int) (v_4 : Int) (v_5 : AC) =>
  Fn.fetterlockref6_nodes v_3 v_4 v_5 H_2 fun H_6 (v_7 : Int) =>
  CondB (decide (v_7 > 300))
    (Q H_6 3)
    (Ld [.int .i64, .int .i64, .ac] H_6 p_1 fun (v_8 : Int) (v_9 : Int) (v_10 : AC) =>
    Fn.fetterlockref6_formulaFault v_8 v_9 v_10 H_6 fun H_11 (v_12 : Int) =>
    Q H_11 v_12)
theorem fetterlockref6_BoolFault.ok {a0_0 : Int} {a0_1 : Int} {a0_2 : AC} {H : AHeap} (Q : AHeap → Int → Prop) : fetterlockref6_BoolFault.W a0_0 a0_1 a0_2 H Q → wpF Try.prog fetterlockref6_BoolFault.c [.tm 2] (envOf [(.agg [(.int .i64 a0_0), (.int .i64 a0_1), a0_2])]) H (fetterlockref6_BoolFault.KQ Q) := c_seq (c_ops (s_cons (w_put (o_box rfl (fun p_1 H_2 => s_cons (w_put (o_mov rfl (s_nil (k_seq (c_seq (c_seq (c_ops (s_cons (w_put (o_ld3 rfl (fun (v_3 : Int) (v_4 : Int) (v_5 : AC) => s_cons (w_put (o_call rfl (cv_1 (fun H_6 (v_7 : Int) => s_cons (w_put (o_gt rfl rfl (s_nil (k_seq (c_if rfl (c_seq (c_ops (s_cons (w_put (o_mov rfl (s_nil (k_seq (c_ret (k_seqR (k_topR (r_one rfl (r_nil (fun h => ⟨((3 : Int), ()), rfl, h⟩))))))))))))) (c_skip (k_seq (c_seq (c_ops (s_cons (w_put (o_ld3 rfl (fun (v_8 : Int) (v_9 : Int) (v_10 : AC) => s_cons (w_put (o_call rfl (cv_1 (fun H_11 (v_12 : Int) => s_cons (w_put (o_mov rfl (s_nil (k_seq (c_ret (k_topR (r_one rfl (r_nil (fun h => ⟨((v_12 : Int), ()), rfl, h⟩))))))))))))))))))))))))))))))))))))))))))))))
theorem fetterlockref6_BoolFault.slimOk : slimOk [] (Try.f14.body.getD .skip) = true := by kernel_rfl
theorem fetterlockref6_BoolFault.resC : resC Try.prog aggs Try.f14.ntmps (slim [] (Try.f14.body.getD .skip)) = some fetterlockref6_BoolFault.c := by kernel_rfl
theorem fetterlockref6_BoolFault.resR : resR Try.prog Try.f14.results.toList = some [.tm 2] := by kernel_rfl
theorem fetterlockref6_BoolFault.bodyEq : Try.f14.body = some (Try.f14.body.getD .skip) := by kernel_rfl
theorem fetterlockref6_BoolFault.run {a0_0 : Int} {a0_1 : Int} {a0_2 : AC} {H : AHeap} {Q : AHeap → Int → Prop} (h : fetterlockref6_BoolFault.W a0_0 a0_1 a0_2 H Q) : Fn.fetterlockref6_BoolFault a0_0 a0_1 a0_2 H Q := by
  unfold Fn.fetterlockref6_BoolFault RunT
  exact run_of aggs_ok [] Try.func14 fetterlockref6_BoolFault.bodyEq fetterlockref6_BoolFault.slimOk fetterlockref6_BoolFault.resC fetterlockref6_BoolFault.resR (Nat.le_of_ble_eq_true (by kernel_rfl)) (fetterlockref6_BoolFault.ok Q h)

def solve_CheckBool.c : RC := (.seq (.ops [.put 1 (.box 24 (.tm 0)),
    .put 2 (.mov (.ct (.one (.int .i64 0))))]) (.seq (.seq (.ops [.put 3 (.ld true [.int .i64, .int .i64, .ac] (.tm 1)),
    .put 4 (.call 46 [(.tm 3), (.ct (.one (.int .i64 300)))]),
    .put 5 (.cm .gt (.tm 4) (.ct (.one (.int .i64 300))))]) (.cond 5 (.seq (.ops [.put 2 (.mov (.ct (.one (.int .i64 3))))]) .ret) .skip)) (.seq (.ops [.put 6 (.ld true [.int .i64, .int .i64, .ac] (.tm 1)),
    .put 7 (.call 47 [(.tm 6)]),
    .put 2 (.mov (.tm 7))]) .ret)))
abbrev solve_CheckBool.KQ (Q : AHeap → Int → Prop) : AV → AHeap → Prop := fun v H => ∃ xs : Tup (flat [(false, [.int .i64])]), v = joinR (splitP [(false, [.int .i64])] (cellsOf (flat [(false, [.int .i64])]) xs)) ∧ app (flat [(false, [.int .i64])]) (Q H) xs
abbrev solve_CheckBool.K (Q : AHeap → Int → Prop) : Ex → Env → AHeap → Prop := kTop [.tm 2] (solve_CheckBool.KQ Q)
def solve_CheckBool.W (a0_0 : Int) (a0_1 : Int) (a0_2 : AC) (H : AHeap) (Q : AHeap → Int → Prop) : Prop :=
  New 24 [(.int .i64 a0_0), (.int .i64 a0_1), a0_2] H fun p_1 H_2 =>
  Ld [.int .i64, .int .i64, .ac] H_2 p_1 fun (v_3 : Int) (v_4 : Int) (v_5 : AC) =>
  Fn.solve_nodes v_3 v_4 v_5 300 H_2 fun H_6 (v_7 : Int) =>
  CondB (decide (v_7 > 300))
    (Q H_6 3)
    (Ld [.int .i64, .int .i64, .ac] H_6 p_1 fun (v_8 : Int) (v_9 : Int) (v_10 : AC) =>
    Fn.solve_boolFault v_8 v_9 v_10 H_6 fun H_11 (v_12 : Int) =>
    Q H_11 v_12)
theorem solve_CheckBool.ok {a0_0 : Int} {a0_1 : Int} {a0_2 : AC} {H : AHeap} (Q : AHeap → Int → Prop) : solve_CheckBool.W a0_0 a0_1 a0_2 H Q → wpF Try.prog solve_CheckBool.c [.tm 2] (envOf [(.agg [(.int .i64 a0_0), (.int .i64 a0_1), a0_2])]) H (solve_CheckBool.KQ Q) := c_seq (c_ops (s_cons (w_put (o_box rfl (fun p_1 H_2 => s_cons (w_put (o_mov rfl (s_nil (k_seq (c_seq (c_seq (c_ops (s_cons (w_put (o_ld3 rfl (fun (v_3 : Int) (v_4 : Int) (v_5 : AC) => s_cons (w_put (o_call rfl (cv_1 (fun H_6 (v_7 : Int) => s_cons (w_put (o_gt rfl rfl (s_nil (k_seq (c_if rfl (c_seq (c_ops (s_cons (w_put (o_mov rfl (s_nil (k_seq (c_ret (k_seqR (k_topR (r_one rfl (r_nil (fun h => ⟨((3 : Int), ()), rfl, h⟩))))))))))))) (c_skip (k_seq (c_seq (c_ops (s_cons (w_put (o_ld3 rfl (fun (v_8 : Int) (v_9 : Int) (v_10 : AC) => s_cons (w_put (o_call rfl (cv_1 (fun H_11 (v_12 : Int) => s_cons (w_put (o_mov rfl (s_nil (k_seq (c_ret (k_topR (r_one rfl (r_nil (fun h => ⟨((v_12 : Int), ()), rfl, h⟩))))))))))))))))))))))))))))))))))))))))))))))
theorem solve_CheckBool.slimOk : slimOk [] (Try.f15.body.getD .skip) = true := by kernel_rfl
theorem solve_CheckBool.resC : resC Try.prog aggs Try.f15.ntmps (slim [] (Try.f15.body.getD .skip)) = some solve_CheckBool.c := by kernel_rfl
theorem solve_CheckBool.resR : resR Try.prog Try.f15.results.toList = some [.tm 2] := by kernel_rfl
theorem solve_CheckBool.bodyEq : Try.f15.body = some (Try.f15.body.getD .skip) := by kernel_rfl
theorem solve_CheckBool.run {a0_0 : Int} {a0_1 : Int} {a0_2 : AC} {H : AHeap} {Q : AHeap → Int → Prop} (h : solve_CheckBool.W a0_0 a0_1 a0_2 H Q) : Fn.solve_CheckBool a0_0 a0_1 a0_2 H Q := by
  unfold Fn.solve_CheckBool RunT
  exact run_of aggs_ok [] Try.func15 solve_CheckBool.bodyEq solve_CheckBool.slimOk solve_CheckBool.resC solve_CheckBool.resR (Nat.le_of_ble_eq_true (by kernel_rfl)) (solve_CheckBool.ok Q h)

def fetterlockref6_OfTable.c : RC := (.seq (.ops [.put 2 (.new 27 [(.sl none 0 0 (some 0)), (.int .i64 0)]),
    .put 3 (.mov (.ct (.one (.int .i64 0))))]) (.seq (.ops [.put 7 (.bld [(.sl none 0 0 (some 0)), (.sl none 0 0 (some 0)), (.bool false)] []),
    .put 8 (.mov (.tm 0)),
    .put 9 (.call 48 [(.tm 7), (.tm 8), (.ct (.one (.int .i64 0)))]),
    .put 6 (.mov (.tm 9)),
    .put 10 (.ex (.tm 6) 0),
    .put 11 (.ex (.tm 6) 1),
    .put 4 (.new 71 [(.sl none 0 0 (some 0)), (.sl none 0 0 (some 0)), (.bool false)]),
    .run (.st 3 (.tm 4) (.tm 10)),
    .put 5 (.mov (.tm 11))]) (.seq (.seq (.ops [.put 12 (.fa 2 (.tm 4)),
    .put 13 (.ld false [.bool] (.tm 12))]) (.cond 13 (.seq (.ops [.put 14 (.bld [(.sl none 0 0 (some 0)), (.int .i64 0)] []),
    .run (.st 2 (.tm 2) (.tm 14)),
    .put 3 (.mov (.ct (.one (.int .i64 3))))]) .ret) .skip)) (.seq (.ops [.put 15 (.fa 0 (.tm 4)),
    .put 16 (.ld false [.ac] (.tm 15)),
    .put 17 (.mov (.tm 5)),
    .put 18 (.bld [(.sl none 0 0 (some 0)), (.int .i64 0)] [(0, 1, (.tm 16)), (1, 1, (.tm 17))]),
    .run (.st 2 (.tm 2) (.tm 18)),
    .put 3 (.mov (.ct (.one (.int .i64 0))))]) .ret))))
abbrev fetterlockref6_OfTable.KQ (Q : AHeap → AC → Int → Int → Prop) : AV → AHeap → Prop := fun v H => ∃ xs : Tup (flat [(true, [.ac, .int .i64]), (false, [.int .i64])]), v = joinR (splitP [(true, [.ac, .int .i64]), (false, [.int .i64])] (cellsOf (flat [(true, [.ac, .int .i64]), (false, [.int .i64])]) xs)) ∧ app (flat [(true, [.ac, .int .i64]), (false, [.int .i64])]) (Q H) xs
abbrev fetterlockref6_OfTable.K (Q : AHeap → AC → Int → Int → Prop) : Ex → Env → AHeap → Prop := kTop [.cell 2 true [.ac, .int .i64], .tm 3] (fetterlockref6_OfTable.KQ Q)
def fetterlockref6_OfTable.W (a0 : AC) (H : AHeap) (Q : AHeap → AC → Int → Int → Prop) : Prop :=
  New 27 [(.sl none 0 0 (some 0)), (.int .i64 0)] H fun p_1 H_2 =>
  Fn.fetterlockref6_walk (.sl none 0 0 (some 0)) (.sl none 0 0 (some 0)) false a0 0 H_2 fun H_3 (v_4 : AC) (v_5 : AC) (v_6 : Bool) (v_7 : Int) =>
  New 71 [(.sl none 0 0 (some 0)), (.sl none 0 0 (some 0)), (.bool false)] H_3 fun p_8 H_9 =>
  Sto H_9 p_8 [v_4, v_5, (.bool v_6)] fun H_10 =>
  FA 2 p_8 fun q_11 =>
  Ld [.bool] H_10 q_11 fun (v_12 : Bool) =>
  CondB v_12
    (Sto H_10 p_1 [(.sl none 0 0 (some 0)), (.int .i64 0)] fun H_13 =>
    Ld [.ac, .int .i64] H_13 p_1 fun (r0_14 : AC) (r1_15 : Int) =>
    Q H_13 r0_14 r1_15 3)
    (FA 0 p_8 fun q_16 =>
    Ld [.ac] H_10 q_16 fun (v_17 : AC) =>
    Sto H_10 p_1 [v_17, (.int .i64 v_7)] fun H_18 =>
    Ld [.ac, .int .i64] H_18 p_1 fun (r0_19 : AC) (r1_20 : Int) =>
    Q H_18 r0_19 r1_20 0)
theorem fetterlockref6_OfTable.ok {a0 : AC} {H : AHeap} (Q : AHeap → AC → Int → Int → Prop) : fetterlockref6_OfTable.W a0 H Q → wpF Try.prog fetterlockref6_OfTable.c [.cell 2 true [.ac, .int .i64], .tm 3] (envOf [(.one a0)]) H (fetterlockref6_OfTable.KQ Q) := c_seq (c_ops (s_cons (w_put (o_new (fun p_1 H_2 => s_cons (w_put (o_mov rfl (s_nil (k_seq (c_seq (c_ops (s_cons (w_put (o_bld rfl (s_cons (w_put (o_mov rfl (s_cons (w_put (o_call rfl (cv_a3_o1 (fun H_3 (v_4 : AC) (v_5 : AC) (v_6 : Bool) (v_7 : Int) => s_cons (w_put (o_mov rfl (s_cons (w_put (o_ex rfl rfl rfl (s_cons (w_put (o_ex rfl rfl rfl (s_cons (w_put (o_new (fun p_8 H_9 => s_cons (w_run (o_st rfl rfl rfl (fun H_10 => s_cons (w_put (o_mov rfl (s_nil (k_seq (c_seq (c_seq (c_ops (s_cons (w_put (o_fa rfl (fun q_11 => s_cons (w_put (o_ld1 rfl (fun (v_12 : Bool) => s_nil (k_seq (c_if rfl (c_seq (c_ops (s_cons (w_put (o_bld rfl (s_cons (w_run (o_st rfl rfl rfl (fun H_13 => s_cons (w_put (o_mov rfl (s_nil (k_seq (c_ret (k_seqR (k_topR (r_cell2 rfl (fun (r0_14 : AC) (r1_15 : Int) => r_one rfl (r_nil (fun h => ⟨(r0_14, (r1_15 : Int), (3 : Int), ()), rfl, h⟩)))))))))))))))))))) (c_skip (k_seq (c_seq (c_ops (s_cons (w_put (o_fa rfl (fun q_16 => s_cons (w_put (o_ld1 rfl (fun (v_17 : AC) => s_cons (w_put (o_mov rfl (s_cons (w_put (o_bld rfl (s_cons (w_run (o_st rfl rfl rfl (fun H_18 => s_cons (w_put (o_mov rfl (s_nil (k_seq (c_ret (k_topR (r_cell2 rfl (fun (r0_19 : AC) (r1_20 : Int) => r_one rfl (r_nil (fun h => ⟨(r0_19, (r1_20 : Int), (0 : Int), ()), rfl, h⟩)))))))))))))))))))))))))))))))))))))))))))))))))))))))))))))))))))))))))))))))))))
theorem fetterlockref6_OfTable.slimOk : slimOk [] (Try.f16.body.getD .skip) = true := by kernel_rfl
theorem fetterlockref6_OfTable.resC : resC Try.prog aggs Try.f16.ntmps (slim [] (Try.f16.body.getD .skip)) = some fetterlockref6_OfTable.c := by kernel_rfl
theorem fetterlockref6_OfTable.resR : resR Try.prog Try.f16.results.toList = some [.cell 2 true [.ac, .int .i64], .tm 3] := by kernel_rfl
theorem fetterlockref6_OfTable.bodyEq : Try.f16.body = some (Try.f16.body.getD .skip) := by kernel_rfl
theorem fetterlockref6_OfTable.run {a0 : AC} {H : AHeap} {Q : AHeap → AC → Int → Int → Prop} (h : fetterlockref6_OfTable.W a0 H Q) : Fn.fetterlockref6_OfTable a0 H Q := by
  unfold Fn.fetterlockref6_OfTable RunT
  exact run_of aggs_ok [] Try.func16 fetterlockref6_OfTable.bodyEq fetterlockref6_OfTable.slimOk fetterlockref6_OfTable.resC fetterlockref6_OfTable.resR (Nat.le_of_ble_eq_true (by kernel_rfl)) (fetterlockref6_OfTable.ok Q h)

def fetterlockref6_FormulaTable.c9 : RC := (.seq (.seq (.ops [.put 6 (.mov (.tm 4)),
    .put 7 (.mov (.tm 3)),
    .put 8 (.lens (.tm 7)),
    .put 9 (.cm .lt (.tm 6) (.tm 8))]) (.cond 9 .skip (.exit 0))) (.seq (.block 1 (.held [.put 12 (.mov (.tm 3)),
    .put 13 (.mov (.tm 4)),
    .put 14 (.ld true [.int .i64, .int .i64, .ac] (.tm 1)),
    .put 15 (.mov (.tm 4)),
    .put 16 (.call 50 [(.tm 15)]),
    .put 17 (.call 49 [(.tm 14), (.tm 16)]),
    .put 18 (.ia 1 (.tm 12) (.tm 13)),
    .run (.st 1 (.tm 18) (.tm 17))] [(2, 4)])) (.ops [.put 10 (.mov (.tm 4)),
    .put 11 (.ar .add (.tm 10) (.ct (.one (.int .i64 1)))),
    .put 4 (.mov (.tm 11))])))
def fetterlockref6_FormulaTable.c : RC := (.seq (.ops [.put 1 (.box 24 (.tm 0)),
    .put 2 (.mov (.ct (.one (.sl none 0 0 (some 0)))))]) (.seq (.ops [.put 5 (.mks 4 1 1 [(.bool false)] (.ct (.one (.int .i64 65536))) (.ct (.one (.int .i64 65536)))),
    .put 3 (.mov (.tm 5))]) (.seq (.seq (.ops [.put 4 (.mov (.ct (.one (.int .i64 0))))]) (.block 0 (.loop fetterlockref6_FormulaTable.c9))) (.seq (.ops [.put 19 (.mov (.tm 3)),
    .put 2 (.mov (.tm 19))]) .ret))))
abbrev fetterlockref6_FormulaTable.KQ (Q : AHeap → AC → Prop) : AV → AHeap → Prop := fun v H => ∃ xs : Tup (flat [(false, [.ac])]), v = joinR (splitP [(false, [.ac])] (cellsOf (flat [(false, [.ac])]) xs)) ∧ app (flat [(false, [.ac])]) (Q H) xs
abbrev fetterlockref6_FormulaTable.K (Q : AHeap → AC → Prop) : Ex → Env → AHeap → Prop := kTop [.tm 2] (fetterlockref6_FormulaTable.KQ Q)
abbrev fetterlockref6_FormulaTable.k5 (Q : AHeap → AC → Prop) : Ex → Env → AHeap → Prop := kSeq (fun t H => wpC Try.prog (.seq (.ops [.put 19 (.mov (.tm 3)),
    .put 2 (.mov (.tm 19))]) .ret) t H (fetterlockref6_FormulaTable.K Q)) (fetterlockref6_FormulaTable.K Q)
def fetterlockref6_FormulaTable.R8 (s : Tup [.ac, .ac, .int .i64]) (t : Env) : Prop := t 1 = (.one (s.1)) ∧ t 3 = (.one (s.2.1)) ∧ t 4 = (.one (.int .i64 (s.2.2.1))) ∧ True
def fetterlockref6_FormulaTable.b8 (Q : AHeap → AC → Prop) (Y8 : Tup [.ac, .ac, .int .i64] → AHeap → Prop) (x1 : AC) (x3 : AC) (x4 : Int) (H : AHeap) : Prop :=
  LenS x3 fun n_1 =>
  CondB (decide (x4 < n_1))
    (Ld [.int .i64, .int .i64, .ac] H x1 fun (v_2 : Int) (v_3 : Int) (v_4 : AC) =>
    Fn.fetterlockref6_turned x4 H fun H_5 (v_6 : Int) =>
    Fn.fetterlockref6_True v_2 v_3 v_4 v_6 H_5 fun H_7 (v_8 : Bool) =>
    IA 1 x3 x4 fun q_9 =>
    Sto H_7 q_9 [(.bool v_8)] fun H_10 =>
    Same1 H H_5 x1 3 ∧
    Y8 (x1, x3, ((IntKind.wrap .i64 (x4 + 1)) : Int), ()) H_10)
    (Q H x3)
def fetterlockref6_FormulaTable.l8 (Q : AHeap → AC → Prop) (x1 : AC) (x3 : AC) (x4 : Int) (H : AHeap) : Prop := LoopT (Tup [.ac, .ac, .int .i64]) (fun Y s H => fetterlockref6_FormulaTable.b8 Q Y (s.1) (s.2.1) (s.2.2.1) H) (x1, x3, x4, ()) H
def fetterlockref6_FormulaTable.W (a0_0 : Int) (a0_1 : Int) (a0_2 : AC) (H : AHeap) (Q : AHeap → AC → Prop) : Prop :=
  New 24 [(.int .i64 a0_0), (.int .i64 a0_1), a0_2] H fun p_1 H_2 =>
  MkS 4 1 1 [(.bool false)] 65536 65536 H_2 fun p_3 H_4 =>
  fetterlockref6_FormulaTable.l8 Q p_1 p_3 0 H_4
theorem fetterlockref6_FormulaTable.b8_ok (Q : AHeap → AC → Prop) (Y8 : Tup [.ac, .ac, .int .i64] → AHeap → Prop) (X8 : Env → AHeap → Prop) (hX8 : ∀ s t H, fetterlockref6_FormulaTable.R8 s t → Y8 s H → X8 t H) {x1 : AC} {x3 : AC} {x4 : Int} {H : AHeap} (j : Env) : fetterlockref6_FormulaTable.b8 Q Y8 x1 x3 x4 H → wpC Try.prog fetterlockref6_FormulaTable.c9 (upd (upd (upd j 1 (.one x1)) 3 (.one x3)) 4 (.one (.int .i64 x4))) H (kSeq X8 (kBlk 0 (fetterlockref6_FormulaTable.k5 Q))) := c_seq (c_seq (c_ops (s_cons (w_put (o_mov rfl (s_cons (w_put (o_mov rfl (s_cons (w_put (o_lens rfl (fun n_1 => s_cons (w_put (o_lt rfl rfl (s_nil (k_seq (c_if rfl (c_skip (k_seq (c_seq (c_blk (c_held (t_cons (w_put (o_mov rfl (t_cons (w_put (o_mov rfl (t_cons (w_put (o_ld3 rfl (fun (v_2 : Int) (v_3 : Int) (v_4 : AC) => t_cons (w_put (o_mov rfl (t_cons (w_put (o_call rfl (cv_1 (fun H_5 (v_6 : Int) => t_cons (w_put (o_call rfl (cv_1 (fun H_7 (v_8 : Bool) => t_cons (w_put (o_ia rfl rfl (fun q_9 => t_cons (w_run (o_st rfl rfl rfl (fun H_10 => t_nil (p_one rfl rfl rfl rfl rfl rfl rfl rfl (p_nil (k_blk (k_seq (c_ops (s_cons (w_put (o_mov rfl (s_cons (w_put (o_add rfl rfl (s_cons (w_put (o_mov rfl (s_nil (k_seq (hX8 _ _ _ ⟨rfl, rfl, rfl, trivial⟩))))))))))))))))))))))))))))))))))))))))))))))))) (c_exit (k_seqE (k_seqE (k_blkH (k_seq (c_seq (c_ops (s_cons (w_put (o_mov rfl (s_cons (w_put (o_mov rfl (s_nil (k_seq (c_ret (k_topR (r_one rfl (r_nil (fun h => ⟨(x3, ()), rfl, h⟩)))))))))))))))))))))))))))))))))))))
theorem fetterlockref6_FormulaTable.l8_ok (Q : AHeap → AC → Prop) {x1 : AC} {x3 : AC} {x4 : Int} {H : AHeap} {t : Env} (h1 : t 1 = (.one x1)) (h3 : t 3 = (.one x3)) (h4 : t 4 = (.one (.int .i64 x4))) : fetterlockref6_FormulaTable.l8 Q x1 x3 x4 H → wpC Try.prog (.loop fetterlockref6_FormulaTable.c9) t H (kBlk 0 (fetterlockref6_FormulaTable.k5 Q)) :=
  m_loop fetterlockref6_FormulaTable.R8 ⟨h1, h3, h4, trivial⟩ fun X Y hX s t H hR hB => by
    have g := fetterlockref6_FormulaTable.b8_ok Q Y X hX t hB
    rw [upd_self hR.1] at g
    rw [upd_self hR.2.1] at g
    rw [upd_self hR.2.2.1] at g
    exact g
theorem fetterlockref6_FormulaTable.ok {a0_0 : Int} {a0_1 : Int} {a0_2 : AC} {H : AHeap} (Q : AHeap → AC → Prop) : fetterlockref6_FormulaTable.W a0_0 a0_1 a0_2 H Q → wpF Try.prog fetterlockref6_FormulaTable.c [.tm 2] (envOf [(.agg [(.int .i64 a0_0), (.int .i64 a0_1), a0_2])]) H (fetterlockref6_FormulaTable.KQ Q) := c_seq (c_ops (s_cons (w_put (o_box rfl (fun p_1 H_2 => s_cons (w_put (o_mov rfl (s_nil (k_seq (c_seq (c_ops (s_cons (w_put (o_mks rfl rfl (fun p_3 H_4 => s_cons (w_put (o_mov rfl (s_nil (k_seq (c_seq (c_seq (c_ops (s_cons (w_put (o_mov rfl (s_nil (k_seq (c_blk (fetterlockref6_FormulaTable.l8_ok Q rfl rfl rfl)))))))))))))))))))))))))))))
theorem fetterlockref6_FormulaTable.slimOk : slimOk [(5, [(2, 4)])] (Try.f17.body.getD .skip) = true := by kernel_rfl
theorem fetterlockref6_FormulaTable.resC : resC Try.prog aggs Try.f17.ntmps (slim [(5, [(2, 4)])] (Try.f17.body.getD .skip)) = some fetterlockref6_FormulaTable.c := by kernel_rfl
theorem fetterlockref6_FormulaTable.resR : resR Try.prog Try.f17.results.toList = some [.tm 2] := by kernel_rfl
theorem fetterlockref6_FormulaTable.bodyEq : Try.f17.body = some (Try.f17.body.getD .skip) := by kernel_rfl
theorem fetterlockref6_FormulaTable.run {a0_0 : Int} {a0_1 : Int} {a0_2 : AC} {H : AHeap} {Q : AHeap → AC → Prop} (h : fetterlockref6_FormulaTable.W a0_0 a0_1 a0_2 H Q) : Fn.fetterlockref6_FormulaTable a0_0 a0_1 a0_2 H Q := by
  unfold Fn.fetterlockref6_FormulaTable RunT
  exact run_of aggs_ok [(5, [(2, 4)])] Try.func17 fetterlockref6_FormulaTable.bodyEq fetterlockref6_FormulaTable.slimOk fetterlockref6_FormulaTable.resC fetterlockref6_FormulaTable.resR (Nat.le_of_ble_eq_true (by kernel_rfl)) (fetterlockref6_FormulaTable.ok Q h)

def fetterlockref6_SameDiagram.c15 : RC := (.seq (.seq (.ops [.put 20 (.mov (.tm 5)),
    .put 21 (.fa 0 (.tm 2)),
    .put 22 (.ld false [.ac] (.tm 21)),
    .put 23 (.lens (.tm 22)),
    .put 24 (.cm .lt (.tm 20) (.tm 23))]) (.cond 24 .skip (.exit 0))) (.seq (.block 1 (.seq (.ops [.put 27 (.fa 0 (.tm 2)),
    .put 28 (.ld false [.ac] (.tm 27)),
    .put 29 (.mov (.tm 5)),
    .put 30 (.ia 3 (.tm 28) (.tm 29)),
    .put 31 (.ld true [.int .i64, .int .i64, .int .i64] (.tm 30)),
    .put 32 (.fa 0 (.tm 3)),
    .put 33 (.ld false [.ac] (.tm 32)),
    .put 34 (.mov (.tm 5)),
    .put 35 (.ia 3 (.tm 33) (.tm 34)),
    .put 36 (.ld true [.int .i64, .int .i64, .int .i64] (.tm 35)),
    .put 37 (.eqa true 3 (.tm 31) (.tm 36))]) (.cond 37 (.seq (.ops [.put 4 (.mov (.ct (.one (.bool false))))]) .ret) .skip))) (.ops [.put 25 (.mov (.tm 5)),
    .put 26 (.ar .add (.tm 25) (.ct (.one (.int .i64 1)))),
    .put 5 (.mov (.tm 26))])))
def fetterlockref6_SameDiagram.c5 : RC := (.cond 19 (.seq (.ops [.put 4 (.mov (.ct (.one (.bool false))))]) .ret) .skip)
def fetterlockref6_SameDiagram.c : RC := (.seq (.ops [.put 2 (.box 27 (.tm 0)),
    .put 3 (.box 27 (.tm 1)),
    .put 4 (.mov (.ct (.one (.bool false))))]) (.seq (.seq (.ops [.put 6 (.fa 0 (.tm 2)),
    .put 7 (.ld false [.ac] (.tm 6)),
    .put 8 (.lens (.tm 7)),
    .put 9 (.fa 0 (.tm 3)),
    .put 10 (.ld false [.ac] (.tm 9)),
    .put 11 (.lens (.tm 10)),
    .put 12 (.cm .ne (.tm 8) (.tm 11)),
    .put 13 (.mov (.tm 12)),
    .gput 14 13 false (.fa 1 (.tm 2)),
    .gput 15 13 false (.ld false [.int .i64] (.tm 14)),
    .gput 16 13 false (.fa 1 (.tm 3)),
    .gput 17 13 false (.ld false [.int .i64] (.tm 16)),
    .gput 18 13 false (.cm .ne (.tm 15) (.tm 17)),
    .put 19 (.pick (.tm 13) (.ct (.one (.bool true))) (.tm 18))]) fetterlockref6_SameDiagram.c5) (.seq (.seq (.ops [.put 5 (.mov (.ct (.one (.int .i64 0))))]) (.block 0 (.loop fetterlockref6_SameDiagram.c15))) (.seq (.ops [.put 4 (.mov (.ct (.one (.bool true))))]) .ret))))
abbrev fetterlockref6_SameDiagram.KQ (Q : AHeap → Bool → Prop) : AV → AHeap → Prop := fun v H => ∃ xs : Tup (flat [(false, [.bool])]), v = joinR (splitP [(false, [.bool])] (cellsOf (flat [(false, [.bool])]) xs)) ∧ app (flat [(false, [.bool])]) (Q H) xs
abbrev fetterlockref6_SameDiagram.K (Q : AHeap → Bool → Prop) : Ex → Env → AHeap → Prop := kTop [.tm 4] (fetterlockref6_SameDiagram.KQ Q)
abbrev fetterlockref6_SameDiagram.k3 (Q : AHeap → Bool → Prop) : Ex → Env → AHeap → Prop := kSeq (fun t H => wpC Try.prog (.seq (.seq (.ops [.put 5 (.mov (.ct (.one (.int .i64 0))))]) (.block 0 (.loop fetterlockref6_SameDiagram.c15))) (.seq (.ops [.put 4 (.mov (.ct (.one (.bool true))))]) .ret)) t H (fetterlockref6_SameDiagram.K Q)) (fetterlockref6_SameDiagram.K Q)
abbrev fetterlockref6_SameDiagram.k11 (Q : AHeap → Bool → Prop) : Ex → Env → AHeap → Prop := kSeq (fun t H => wpC Try.prog (.seq (.ops [.put 4 (.mov (.ct (.one (.bool true))))]) .ret) t H (fetterlockref6_SameDiagram.K Q)) (fetterlockref6_SameDiagram.K Q)
def fetterlockref6_SameDiagram.R14 (s : Tup [.ac, .ac, .int .i64]) (t : Env) : Prop := t 2 = (.one (s.1)) ∧ t 3 = (.one (s.2.1)) ∧ t 5 = (.one (.int .i64 (s.2.2.1))) ∧ True
def fetterlockref6_SameDiagram.b14 (Q : AHeap → Bool → Prop) (Y14 : Tup [.ac, .ac, .int .i64] → AHeap → Prop) (x2 : AC) (x3 : AC) (x5 : Int) (H : AHeap) : Prop :=
  FA 0 x2 fun q_1 =>
  Ld [.ac] H q_1 fun (v_2 : AC) =>
  LenS v_2 fun n_3 =>
  CondB (decide (x5 < n_3))
    (FA 0 x2 fun q_4 =>
    Ld [.ac] H q_4 fun (v_5 : AC) =>
    IA 3 v_5 x5 fun q_6 =>
    Ld [.int .i64, .int .i64, .int .i64] H q_6 fun (v_7 : Int) (v_8 : Int) (v_9 : Int) =>
    FA 0 x3 fun q_10 =>
    Ld [.ac] H q_10 fun (v_11 : AC) =>
    IA 3 v_11 x5 fun q_12 =>
    Ld [.int .i64, .int .i64, .int .i64] H q_12 fun (v_13 : Int) (v_14 : Int) (v_15 : Int) =>
    CondB (!(decide (([v_7, v_8, v_9] : List Int) = ([v_13, v_14, v_15] : List Int))))
      (Q H false)
      (Y14 (x2, x3, ((IntKind.wrap .i64 (x5 + 1)) : Int), ()) H))
    (Q H true)
def fetterlockref6_SameDiagram.l14 (Q : AHeap → Bool → Prop) (x2 : AC) (x3 : AC) (x5 : Int) (H : AHeap) : Prop := LoopT (Tup [.ac, .ac, .int .i64]) (fun Y s H => fetterlockref6_SameDiagram.b14 Q Y (s.1) (s.2.1) (s.2.2.1) H) (x2, x3, x5, ()) H
def fetterlockref6_SameDiagram.p5 (Q : AHeap → Bool → Prop) (x2 : AC) (x3 : AC) (x19 : Bool) (H : AHeap) : Prop :=
  CondB x19
    (Q H false)
    (fetterlockref6_SameDiagram.l14 Q x2 x3 0 H)
def fetterlockref6_SameDiagram.W (a0_0 : AC) (a0_1 : Int) (a1_0 : AC) (a1_1 : Int) (H : AHeap) (Q : AHeap → Bool → Prop) : Prop :=
  New 27 [a0_0, (.int .i64 a0_1)] H fun p_1 H_2 =>
  New 27 [a1_0, (.int .i64 a1_1)] H_2 fun p_3 H_4 =>
  FA 0 p_1 fun q_5 =>
  Ld [.ac] H_4 q_5 fun (v_6 : AC) =>
  LenS v_6 fun n_7 =>
  FA 0 p_3 fun q_8 =>
  Ld [.ac] H_4 q_8 fun (v_9 : AC) =>
  LenS v_9 fun n_10 =>
  CondB (n_7 != n_10)
    (fetterlockref6_SameDiagram.p5 Q p_1 p_3 true H_4)
    (FA 1 p_1 fun q_11 =>
    Ld [.int .i64] H_4 q_11 fun (v_12 : Int) =>
    FA 1 p_3 fun q_13 =>
    Ld [.int .i64] H_4 q_13 fun (v_14 : Int) =>
    fetterlockref6_SameDiagram.p5 Q p_1 p_3 (v_12 != v_14) H_4)
theorem fetterlockref6_SameDiagram.b14_ok (Q : AHeap → Bool → Prop) (Y14 : Tup [.ac, .ac, .int .i64] → AHeap → Prop) (X14 : Env → AHeap → Prop) (hX14 : ∀ s t H, fetterlockref6_SameDiagram.R14 s t → Y14 s H → X14 t H) {x2 : AC} {x3 : AC} {x5 : Int} {H : AHeap} (j : Env) : fetterlockref6_SameDiagram.b14 Q Y14 x2 x3 x5 H → wpC Try.prog fetterlockref6_SameDiagram.c15 (upd (upd (upd j 2 (.one x2)) 3 (.one x3)) 5 (.one (.int .i64 x5))) H (kSeq X14 (kBlk 0 (fetterlockref6_SameDiagram.k11 Q))) := c_seq (c_seq (c_ops (s_cons (w_put (o_mov rfl (s_cons (w_put (o_fa rfl (fun q_1 => s_cons (w_put (o_ld1 rfl (fun (v_2 : AC) => s_cons (w_put (o_lens rfl (fun n_3 => s_cons (w_put (o_lt rfl rfl (s_nil (k_seq (c_if rfl (c_skip (k_seq (c_seq (c_blk (c_seq (c_ops (s_cons (w_put (o_fa rfl (fun q_4 => s_cons (w_put (o_ld1 rfl (fun (v_5 : AC) => s_cons (w_put (o_mov rfl (s_cons (w_put (o_ia rfl rfl (fun q_6 => s_cons (w_put (o_ld3 rfl (fun (v_7 : Int) (v_8 : Int) (v_9 : Int) => s_cons (w_put (o_fa rfl (fun q_10 => s_cons (w_put (o_ld1 rfl (fun (v_11 : AC) => s_cons (w_put (o_mov rfl (s_cons (w_put (o_ia rfl rfl (fun q_12 => s_cons (w_put (o_ld3 rfl (fun (v_13 : Int) (v_14 : Int) (v_15 : Int) => s_cons (w_put (o_nea rfl rfl rfl rfl rfl (s_nil (k_seq (c_if rfl (c_seq (c_ops (s_cons (w_put (o_mov rfl (s_nil (k_seq (c_ret (k_blkR (k_seqR (k_seqR (k_blkR (k_seqR (k_topR (r_one rfl (r_nil (fun h => ⟨((false : Bool), ()), rfl, h⟩))))))))))))))))) (c_skip (k_blk (k_seq (c_ops (s_cons (w_put (o_mov rfl (s_cons (w_put (o_add rfl rfl (s_cons (w_put (o_mov rfl (s_nil (k_seq (hX14 _ _ _ ⟨rfl, rfl, rfl, trivial⟩)))))))))))))))))))))))))))))))))))))))))))))))))))))))))) (c_exit (k_seqE (k_seqE (k_blkH (k_seq (c_seq (c_ops (s_cons (w_put (o_mov rfl (s_nil (k_seq (c_ret (k_topR (r_one rfl (r_nil (fun h => ⟨((true : Bool), ()), rfl, h⟩)))))))))))))))))))))))))))))))))))))
theorem fetterlockref6_SameDiagram.l14_ok (Q : AHeap → Bool → Prop) {x2 : AC} {x3 : AC} {x5 : Int} {H : AHeap} {t : Env} (h2 : t 2 = (.one x2)) (h3 : t 3 = (.one x3)) (h5 : t 5 = (.one (.int .i64 x5))) : fetterlockref6_SameDiagram.l14 Q x2 x3 x5 H → wpC Try.prog (.loop fetterlockref6_SameDiagram.c15) t H (kBlk 0 (fetterlockref6_SameDiagram.k11 Q)) :=
  m_loop fetterlockref6_SameDiagram.R14 ⟨h2, h3, h5, trivial⟩ fun X Y hX s t H hR hB => by
    have g := fetterlockref6_SameDiagram.b14_ok Q Y X hX t hB
    rw [upd_self hR.1] at g
    rw [upd_self hR.2.1] at g
    rw [upd_self hR.2.2.1] at g
    exact g
theorem fetterlockref6_SameDiagram.p5_okE (Q : AHeap → Bool → Prop) {x2 : AC} {x3 : AC} {x19 : Bool} {H : AHeap} (j : Env) : fetterlockref6_SameDiagram.p5 Q x2 x3 x19 H → wpC Try.prog fetterlockref6_SameDiagram.c5 (upd (upd (upd j 2 (.one x2)) 3 (.one x3)) 19 (.one (.bool x19))) H (fetterlockref6_SameDiagram.k3 Q) := c_if rfl (c_seq (c_ops (s_cons (w_put (o_mov rfl (s_nil (k_seq (c_ret (k_seqR (k_topR (r_one rfl (r_nil (fun h => ⟨((false : Bool), ()), rfl, h⟩))))))))))))) (c_skip (k_seq (c_seq (c_seq (c_ops (s_cons (w_put (o_mov rfl (s_nil (k_seq (c_blk (fetterlockref6_SameDiagram.l14_ok Q rfl rfl rfl))))))))))))
theorem fetterlockref6_SameDiagram.p5_ok (Q : AHeap → Bool → Prop) {x2 : AC} {x3 : AC} {x19 : Bool} {H : AHeap} {t : Env} (h2 : t 2 = (.one x2)) (h3 : t 3 = (.one x3)) (h19 : t 19 = (.one (.bool x19))) (h : fetterlockref6_SameDiagram.p5 Q x2 x3 x19 H) : wpC Try.prog fetterlockref6_SameDiagram.c5 t H (fetterlockref6_SameDiagram.k3 Q) := by
  have g := fetterlockref6_SameDiagram.p5_okE Q t h
  rw [upd_self h2] at g
  rw [upd_self h3] at g
  rw [upd_self h19] at g
  exact g
theorem fetterlockref6_SameDiagram.ok {a0_0 : AC} {a0_1 : Int} {a1_0 : AC} {a1_1 : Int} {H : AHeap} (Q : AHeap → Bool → Prop) : fetterlockref6_SameDiagram.W a0_0 a0_1 a1_0 a1_1 H Q → wpF Try.prog fetterlockref6_SameDiagram.c [.tm 4] (envOf [(.agg [a0_0, (.int .i64 a0_1)]), (.agg [a1_0, (.int .i64 a1_1)])]) H (fetterlockref6_SameDiagram.KQ Q) := c_seq (c_ops (s_cons (w_put (o_box rfl (fun p_1 H_2 => s_cons (w_put (o_box rfl (fun p_3 H_4 => s_cons (w_put (o_mov rfl (s_nil (k_seq (c_seq (c_seq (c_ops (s_cons (w_put (o_fa rfl (fun q_5 => s_cons (w_put (o_ld1 rfl (fun (v_6 : AC) => s_cons (w_put (o_lens rfl (fun n_7 => s_cons (w_put (o_fa rfl (fun q_8 => s_cons (w_put (o_ld1 rfl (fun (v_9 : AC) => s_cons (w_put (o_lens rfl (fun n_10 => s_cons (w_put (o_ne rfl rfl (s_cons (w_put (o_mov rfl (s_cons (w_gputF rfl (s_cons (w_gputN rfl (s_cons (w_gputN rfl (s_cons (w_gputN rfl (s_cons (w_gputN rfl (s_cons (w_put (o_pickT rfl rfl (s_nil (k_seq (fetterlockref6_SameDiagram.p5_ok Q rfl rfl rfl)))))))))))))) (o_fa rfl (fun q_11 => s_cons (w_gputY rfl (o_ld1 rfl (fun (v_12 : Int) => s_cons (w_gputY rfl (o_fa rfl (fun q_13 => s_cons (w_gputY rfl (o_ld1 rfl (fun (v_14 : Int) => s_cons (w_gputY rfl (o_ne rfl rfl (s_cons (w_put (o_pickF rfl rfl (s_nil (k_seq (fetterlockref6_SameDiagram.p5_ok Q rfl rfl rfl))))))))))))))))))))))))))))))))))))))))))))))))))))))))))))
theorem fetterlockref6_SameDiagram.slimOk : slimOk [(6, [])] (Try.f18.body.getD .skip) = true := by kernel_rfl
theorem fetterlockref6_SameDiagram.resC : resC Try.prog aggs Try.f18.ntmps (slim [(6, [])] (Try.f18.body.getD .skip)) = some fetterlockref6_SameDiagram.c := by kernel_rfl
theorem fetterlockref6_SameDiagram.resR : resR Try.prog Try.f18.results.toList = some [.tm 4] := by kernel_rfl
theorem fetterlockref6_SameDiagram.bodyEq : Try.f18.body = some (Try.f18.body.getD .skip) := by kernel_rfl
theorem fetterlockref6_SameDiagram.run {a0_0 : AC} {a0_1 : Int} {a1_0 : AC} {a1_1 : Int} {H : AHeap} {Q : AHeap → Bool → Prop} (h : fetterlockref6_SameDiagram.W a0_0 a0_1 a1_0 a1_1 H Q) : Fn.fetterlockref6_SameDiagram a0_0 a0_1 a1_0 a1_1 H Q := by
  unfold Fn.fetterlockref6_SameDiagram RunT
  exact run_of aggs_ok [(6, [])] Try.func18 fetterlockref6_SameDiagram.bodyEq fetterlockref6_SameDiagram.slimOk fetterlockref6_SameDiagram.resC fetterlockref6_SameDiagram.resR (Nat.le_of_ble_eq_true (by kernel_rfl)) (fetterlockref6_SameDiagram.ok Q h)

def fetterlocklaw6_built.c11 : RC := (.cond 29 (.seq (.ops [.put 0 (.mov (.ct (.one (.bool false))))]) .ret) .skip)
def fetterlocklaw6_built.c : RC := (.seq (.ops [.put 0 (.mov (.ct (.one (.bool false))))]) (.seq (.ops [.put 7 (.bld [(.int .i64 0), (.int .i64 0), (.sl none 0 0 (some 0))] [(0, 1, (.ct (.one (.int .i64 1))))]),
    .put 1 (.new 24 [(.int .i64 0), (.int .i64 0), (.sl none 0 0 (some 0))]),
    .run (.st 3 (.tm 1) (.tm 7))]) (.seq (.ops [.put 8 (.bld [(.int .i64 0), (.int .i64 0), (.sl none 0 0 (some 0))] [(0, 1, (.ct (.one (.int .i64 1)))), (1, 1, (.ct (.one (.int .i64 2))))]),
    .put 2 (.new 24 [(.int .i64 0), (.int .i64 0), (.sl none 0 0 (some 0))]),
    .run (.st 3 (.tm 2) (.tm 8))]) (.seq (.ops [.put 10 (.ld true [.int .i64, .int .i64, .ac] (.tm 1)),
    .put 11 (.ld true [.int .i64, .int .i64, .ac] (.tm 2)),
    .put 12 (.blds 24 3 2 [(.int .i64 0), (.int .i64 0), (.sl none 0 0 (some 0)), (.int .i64 0), (.int .i64 0), (.sl none 0 0 (some 0))] [(0, 3, (.tm 10)), (3, 3, (.tm 11))]),
    .put 13 (.bld [(.int .i64 0), (.int .i64 0), (.sl none 0 0 (some 0))] [(0, 1, (.ct (.one (.int .i64 4)))), (2, 1, (.tm 12))]),
    .put 14 (.call 13 [(.tm 13)]),
    .put 9 (.mov (.tm 14)),
    .put 15 (.ex (.tm 9) 0),
    .put 16 (.ex (.tm 9) 1),
    .put 3 (.new 27 [(.sl none 0 0 (some 0)), (.int .i64 0)]),
    .run (.st 2 (.tm 3) (.tm 15)),
    .put 4 (.mov (.tm 16))]) (.seq (.seq (.ops [.put 17 (.mov (.tm 4)),
    .put 18 (.cm .ne (.tm 17) (.ct (.one (.int .i64 0)))),
    .put 19 (.mov (.tm 18)),
    .gput 20 19 false (.fa 1 (.tm 3)),
    .gput 21 19 false (.ld false [.int .i64] (.tm 20)),
    .gput 22 19 false (.cm .ne (.tm 21) (.ct (.one (.int .i64 1)))),
    .put 23 (.pick (.tm 19) (.ct (.one (.bool true))) (.tm 22)),
    .put 24 (.mov (.tm 23)),
    .gput 25 24 false (.fa 0 (.tm 3)),
    .gput 26 24 false (.ld false [.ac] (.tm 25)),
    .gput 27 24 false (.lens (.tm 26)),
    .gput 28 24 false (.cm .ne (.tm 27) (.ct (.one (.int .i64 2)))),
    .put 29 (.pick (.tm 24) (.ct (.one (.bool true))) (.tm 28))]) fetterlocklaw6_built.c11) (.seq (.ops [.put 31 (.ld true [.ac, .int .i64] (.tm 3)),
    .put 32 (.call 24 [(.tm 31), (.ct (.one (.int .i64 3)))]),
    .put 30 (.mov (.tm 32)),
    .put 33 (.ex (.tm 30) 0),
    .put 34 (.ex (.tm 30) 1),
    .put 5 (.mov (.tm 33)),
    .put 6 (.mov (.tm 34))]) (.seq (.ops [.put 35 (.fa 0 (.tm 3)),
    .put 36 (.ld false [.ac] (.tm 35)),
    .put 37 (.ia 3 (.tm 36) (.ct (.one (.int .i64 0)))),
    .put 38 (.ld true [.int .i64, .int .i64, .int .i64] (.tm 37)),
    .put 39 (.bld [(.int .i64 0), (.int .i64 0), (.int .i64 0)] [(0, 1, (.ct (.one (.int .i64 2)))), (1, 1, (.ct (.one (.int .i64 (-1))))), (2, 1, (.ct (.one (.int .i64 (-2)))))]),
    .put 40 (.eqa false 3 (.tm 38) (.tm 39)),
    .put 41 (.mov (.tm 40)),
    .gput 42 41 true (.fa 0 (.tm 3)),
    .gput 43 41 true (.ld false [.ac] (.tm 42)),
    .gput 44 41 true (.ia 3 (.tm 43) (.ct (.one (.int .i64 1)))),
    .gput 45 41 true (.ld true [.int .i64, .int .i64, .int .i64] (.tm 44)),
    .gput 46 41 true (.bld [(.int .i64 0), (.int .i64 0), (.int .i64 0)] [(0, 1, (.ct (.one (.int .i64 0)))), (1, 1, (.ct (.one (.int .i64 (-1))))), (2, 1, (.ct (.one (.int .i64 0))))]),
    .gput 47 41 true (.eqa false 3 (.tm 45) (.tm 46)),
    .put 48 (.pick (.tm 41) (.tm 47) (.ct (.one (.bool false)))),
    .put 49 (.mov (.tm 48)),
    .gput 50 49 true (.mov (.tm 6)),
    .gput 51 49 true (.cm .eq (.tm 50) (.ct (.one (.int .i64 0)))),
    .put 52 (.pick (.tm 49) (.tm 51) (.ct (.one (.bool false)))),
    .put 53 (.mov (.tm 52)),
    .gput 54 53 true (.mov (.tm 5)),
    .gput 55 53 true (.cm .eq (.tm 54) (.ct (.one (.int .i64 2)))),
    .put 56 (.pick (.tm 53) (.tm 55) (.ct (.one (.bool false)))),
    .put 0 (.mov (.tm 56))]) .ret)))))))
abbrev fetterlocklaw6_built.KQ (Q : AHeap → Bool → Prop) : AV → AHeap → Prop := fun v H => ∃ xs : Tup (flat [(false, [.bool])]), v = joinR (splitP [(false, [.bool])] (cellsOf (flat [(false, [.bool])]) xs)) ∧ app (flat [(false, [.bool])]) (Q H) xs
abbrev fetterlocklaw6_built.K (Q : AHeap → Bool → Prop) : Ex → Env → AHeap → Prop := kTop [.tm 0] (fetterlocklaw6_built.KQ Q)
abbrev fetterlocklaw6_built.k9 (Q : AHeap → Bool → Prop) : Ex → Env → AHeap → Prop := kSeq (fun t H => wpC Try.prog (.seq (.ops [.put 31 (.ld true [.ac, .int .i64] (.tm 3)),
    .put 32 (.call 24 [(.tm 31), (.ct (.one (.int .i64 3)))]),
    .put 30 (.mov (.tm 32)),
    .put 33 (.ex (.tm 30) 0),
    .put 34 (.ex (.tm 30) 1),
    .put 5 (.mov (.tm 33)),
    .put 6 (.mov (.tm 34))]) (.seq (.ops [.put 35 (.fa 0 (.tm 3)),
    .put 36 (.ld false [.ac] (.tm 35)),
    .put 37 (.ia 3 (.tm 36) (.ct (.one (.int .i64 0)))),
    .put 38 (.ld true [.int .i64, .int .i64, .int .i64] (.tm 37)),
    .put 39 (.bld [(.int .i64 0), (.int .i64 0), (.int .i64 0)] [(0, 1, (.ct (.one (.int .i64 2)))), (1, 1, (.ct (.one (.int .i64 (-1))))), (2, 1, (.ct (.one (.int .i64 (-2)))))]),
    .put 40 (.eqa false 3 (.tm 38) (.tm 39)),
    .put 41 (.mov (.tm 40)),
    .gput 42 41 true (.fa 0 (.tm 3)),
    .gput 43 41 true (.ld false [.ac] (.tm 42)),
    .gput 44 41 true (.ia 3 (.tm 43) (.ct (.one (.int .i64 1)))),
    .gput 45 41 true (.ld true [.int .i64, .int .i64, .int .i64] (.tm 44)),
    .gput 46 41 true (.bld [(.int .i64 0), (.int .i64 0), (.int .i64 0)] [(0, 1, (.ct (.one (.int .i64 0)))), (1, 1, (.ct (.one (.int .i64 (-1))))), (2, 1, (.ct (.one (.int .i64 0))))]),
    .gput 47 41 true (.eqa false 3 (.tm 45) (.tm 46)),
    .put 48 (.pick (.tm 41) (.tm 47) (.ct (.one (.bool false)))),
    .put 49 (.mov (.tm 48)),
    .gput 50 49 true (.mov (.tm 6)),
    .gput 51 49 true (.cm .eq (.tm 50) (.ct (.one (.int .i64 0)))),
    .put 52 (.pick (.tm 49) (.tm 51) (.ct (.one (.bool false)))),
    .put 53 (.mov (.tm 52)),
    .gput 54 53 true (.mov (.tm 5)),
    .gput 55 53 true (.cm .eq (.tm 54) (.ct (.one (.int .i64 2)))),
    .put 56 (.pick (.tm 53) (.tm 55) (.ct (.one (.bool false)))),
    .put 0 (.mov (.tm 56))]) .ret)) t H (fetterlocklaw6_built.K Q)) (fetterlocklaw6_built.K Q)
def fetterlocklaw6_built.p11 (Q : AHeap → Bool → Prop) (x3 : AC) (x29 : Bool) (H : AHeap) : Prop :=
  CondB x29
    (Q H false)
    (Ld [.ac, .int .i64] H x3 fun (v_1 : AC) (v_2 : Int) =>
    Fn.solve_Count v_1 v_2 3 H fun H_3 (v_4 : Int) (v_5 : Int) =>
    FA 0 x3 fun q_6 =>
    Ld [.ac] H_3 q_6 fun (v_7 : AC) =>
    IA 3 v_7 0 fun q_8 =>
    Ld [.int .i64, .int .i64, .int .i64] H_3 q_8 fun (v_9 : Int) (v_10 : Int) (v_11 : Int) =>
    CondB (decide (([v_9, v_10, v_11] : List Int) = ([2, (-1), (-2)] : List Int)))
      (FA 0 x3 fun q_12 =>
      Ld [.ac] H_3 q_12 fun (v_13 : AC) =>
      IA 3 v_13 1 fun q_14 =>
      Ld [.int .i64, .int .i64, .int .i64] H_3 q_14 fun (v_15 : Int) (v_16 : Int) (v_17 : Int) =>
      CondB (decide (([v_15, v_16, v_17] : List Int) = ([0, (-1), 0] : List Int)))
        (CondB (v_5 == 0)
          (Q H_3 (v_4 == 2))
          (Q H_3 false))
        (Q H_3 false))
      (Q H_3 false))
def fetterlocklaw6_built.W (H : AHeap) (Q : AHeap → Bool → Prop) : Prop :=
  New 24 [(.int .i64 0), (.int .i64 0), (.sl none 0 0 (some 0))] H fun p_1 H_2 =>
  Sto H_2 p_1 [(.int .i64 1), (.int .i64 0), (.sl none 0 0 (some 0))] fun H_3 =>
  New 24 [(.int .i64 0), (.int .i64 0), (.sl none 0 0 (some 0))] H_3 fun p_4 H_5 =>
  Sto H_5 p_4 [(.int .i64 1), (.int .i64 2), (.sl none 0 0 (some 0))] fun H_6 =>
  Ld [.int .i64, .int .i64, .ac] H_6 p_1 fun (v_7 : Int) (v_8 : Int) (v_9 : AC) =>
  Ld [.int .i64, .int .i64, .ac] H_6 p_4 fun (v_10 : Int) (v_11 : Int) (v_12 : AC) =>
  NewS 24 3 2 [(.int .i64 v_7), (.int .i64 v_8), v_9, (.int .i64 v_10), (.int .i64 v_11), v_12] H_6 fun p_13 H_14 =>
  Fn.solve_Build 4 0 p_13 H_14 fun H_15 (v_16 : AC) (v_17 : Int) (v_18 : Int) =>
  New 27 [(.sl none 0 0 (some 0)), (.int .i64 0)] H_15 fun p_19 H_20 =>
  Sto H_20 p_19 [v_16, (.int .i64 v_17)] fun H_21 =>
  CondB (v_18 != 0)
    (fetterlocklaw6_built.p11 Q p_19 true H_21)
    (FA 1 p_19 fun q_22 =>
    Ld [.int .i64] H_21 q_22 fun (v_23 : Int) =>
    CondB (v_23 != 1)
      (fetterlocklaw6_built.p11 Q p_19 true H_21)
      (FA 0 p_19 fun q_24 =>
      Ld [.ac] H_21 q_24 fun (v_25 : AC) =>
      LenS v_25 fun n_26 =>
      fetterlocklaw6_built.p11 Q p_19 (n_26 != 2) H_21))
theorem fetterlocklaw6_built.p11_okE (Q : AHeap → Bool → Prop) {x3 : AC} {x29 : Bool} {H : AHeap} (j : Env) : fetterlocklaw6_built.p11 Q x3 x29 H → wpC Try.prog fetterlocklaw6_built.c11 (upd (upd j 3 (.one x3)) 29 (.one (.bool x29))) H (fetterlocklaw6_built.k9 Q) := c_if rfl (c_seq (c_ops (s_cons (w_put (o_mov rfl (s_nil (k_seq (c_ret (k_seqR (k_topR (r_one rfl (r_nil (fun h => ⟨((false : Bool), ()), rfl, h⟩))))))))))))) (c_skip (k_seq (c_seq (c_ops (s_cons (w_put (o_ld2 rfl (fun (v_1 : AC) (v_2 : Int) => s_cons (w_put (o_call rfl (cv_o1_o1 (fun H_3 (v_4 : Int) (v_5 : Int) => s_cons (w_put (o_mov rfl (s_cons (w_put (o_ex rfl rfl rfl (s_cons (w_put (o_ex rfl rfl rfl (s_cons (w_put (o_mov rfl (s_cons (w_put (o_mov rfl (s_nil (k_seq (c_seq (c_ops (s_cons (w_put (o_fa rfl (fun q_6 => s_cons (w_put (o_ld1 rfl (fun (v_7 : AC) => s_cons (w_put (o_ia rfl rfl (fun q_8 => s_cons (w_put (o_ld3 rfl (fun (v_9 : Int) (v_10 : Int) (v_11 : Int) => s_cons (w_put (o_bld rfl (s_cons (w_put (o_eqa rfl rfl rfl rfl rfl (s_cons (w_put (o_mov rfl (s_cons (w_gputT rfl (o_fa rfl (fun q_12 => s_cons (w_gputY rfl (o_ld1 rfl (fun (v_13 : AC) => s_cons (w_gputY rfl (o_ia rfl rfl (fun q_14 => s_cons (w_gputY rfl (o_ld3 rfl (fun (v_15 : Int) (v_16 : Int) (v_17 : Int) => s_cons (w_gputY rfl (o_bld rfl (s_cons (w_gputY rfl (o_eqa rfl rfl rfl rfl rfl (s_cons (w_put (o_pickT rfl rfl (s_cons (w_put (o_mov rfl (s_cons (w_gputT rfl (o_mov rfl (s_cons (w_gputY rfl (o_eq rfl rfl (s_cons (w_put (o_pickT rfl rfl (s_cons (w_put (o_mov rfl (s_cons (w_gputT rfl (o_mov rfl (s_cons (w_gputY rfl (o_eq rfl rfl (s_cons (w_put (o_pickT rfl rfl (s_cons (w_put (o_mov rfl (s_nil (k_seq (c_ret (k_topR (r_one rfl (r_nil (fun h => ⟨(((v_4 == 2) : Bool), ()), rfl, h⟩))))))))))))))))) (s_cons (w_gputN rfl (s_cons (w_put (o_pickF rfl rfl (s_cons (w_put (o_mov rfl (s_nil (k_seq (c_ret (k_topR (r_one rfl (r_nil (fun h => ⟨((false : Bool), ()), rfl, h⟩))))))))))))))))))))))))))) (s_cons (w_gputN rfl (s_cons (w_put (o_pickF rfl rfl (s_cons (w_put (o_mov rfl (s_cons (w_gputN rfl (s_cons (w_gputN rfl (s_cons (w_put (o_pickF rfl rfl (s_cons (w_put (o_mov rfl (s_nil (k_seq (c_ret (k_topR (r_one rfl (r_nil (fun h => ⟨((false : Bool), ()), rfl, h⟩))))))))))))))))))))))))))))))))))))))))))))))))) (s_cons (w_gputN rfl (s_cons (w_gputN rfl (s_cons (w_gputN rfl (s_cons (w_gputN rfl (s_cons (w_gputN rfl (s_cons (w_put (o_pickF rfl rfl (s_cons (w_put (o_mov rfl (s_cons (w_gputN rfl (s_cons (w_gputN rfl (s_cons (w_put (o_pickF rfl rfl (s_cons (w_put (o_mov rfl (s_cons (w_gputN rfl (s_cons (w_gputN rfl (s_cons (w_put (o_pickF rfl rfl (s_cons (w_put (o_mov rfl (s_nil (k_seq (c_ret (k_topR (r_one rfl (r_nil (fun h => ⟨((false : Bool), ()), rfl, h⟩))))))))))))))))))))))))))))))))))))))))))))))))))))))))))))))))))))))))))))))))))))))))))))))))
theorem fetterlocklaw6_built.p11_ok (Q : AHeap → Bool → Prop) {x3 : AC} {x29 : Bool} {H : AHeap} {t : Env} (h3 : t 3 = (.one x3)) (h29 : t 29 = (.one (.bool x29))) (h : fetterlocklaw6_built.p11 Q x3 x29 H) : wpC Try.prog fetterlocklaw6_built.c11 t H (fetterlocklaw6_built.k9 Q) := by
  have g := fetterlocklaw6_built.p11_okE Q t h
  rw [upd_self h3] at g
  rw [upd_self h29] at g
  exact g
theorem fetterlocklaw6_built.ok {H : AHeap} (Q : AHeap → Bool → Prop) : fetterlocklaw6_built.W H Q → wpF Try.prog fetterlocklaw6_built.c [.tm 0] (envOf []) H (fetterlocklaw6_built.KQ Q) := c_seq (c_ops (s_cons (w_put (o_mov rfl (s_nil (k_seq (c_seq (c_ops (s_cons (w_put (o_bld rfl (s_cons (w_put (o_new (fun p_1 H_2 => s_cons (w_run (o_st rfl rfl rfl (fun H_3 => s_nil (k_seq (c_seq (c_ops (s_cons (w_put (o_bld rfl (s_cons (w_put (o_new (fun p_4 H_5 => s_cons (w_run (o_st rfl rfl rfl (fun H_6 => s_nil (k_seq (c_seq (c_ops (s_cons (w_put (o_ld3 rfl (fun (v_7 : Int) (v_8 : Int) (v_9 : AC) => s_cons (w_put (o_ld3 rfl (fun (v_10 : Int) (v_11 : Int) (v_12 : AC) => s_cons (w_put (o_blds rfl (fun p_13 H_14 => s_cons (w_put (o_bld rfl (s_cons (w_put (o_call rfl (cv_a2_o1 (fun H_15 (v_16 : AC) (v_17 : Int) (v_18 : Int) => s_cons (w_put (o_mov rfl (s_cons (w_put (o_ex rfl rfl rfl (s_cons (w_put (o_ex rfl rfl rfl (s_cons (w_put (o_new (fun p_19 H_20 => s_cons (w_run (o_st rfl rfl rfl (fun H_21 => s_cons (w_put (o_mov rfl (s_nil (k_seq (c_seq (c_seq (c_ops (s_cons (w_put (o_mov rfl (s_cons (w_put (o_ne rfl rfl (s_cons (w_put (o_mov rfl (s_cons (w_gputF rfl (s_cons (w_gputN rfl (s_cons (w_gputN rfl (s_cons (w_put (o_pickT rfl rfl (s_cons (w_put (o_mov rfl (s_cons (w_gputN rfl (s_cons (w_gputN rfl (s_cons (w_gputN rfl (s_cons (w_gputN rfl (s_cons (w_put (o_pickT rfl rfl (s_nil (k_seq (fetterlocklaw6_built.p11_ok Q rfl rfl)))))))))))))))))))))))) (o_fa rfl (fun q_22 => s_cons (w_gputY rfl (o_ld1 rfl (fun (v_23 : Int) => s_cons (w_gputY rfl (o_ne rfl rfl (s_cons (w_put (o_pickF rfl rfl (s_cons (w_put (o_mov rfl (s_cons (w_gputF rfl (s_cons (w_gputN rfl (s_cons (w_gputN rfl (s_cons (w_gputN rfl (s_cons (w_put (o_pickT rfl rfl (s_nil (k_seq (fetterlocklaw6_built.p11_ok Q rfl rfl)))))))))))) (o_fa rfl (fun q_24 => s_cons (w_gputY rfl (o_ld1 rfl (fun (v_25 : AC) => s_cons (w_gputY rfl (o_lens rfl (fun n_26 => s_cons (w_gputY rfl (o_ne rfl rfl (s_cons (w_put (o_pickF rfl rfl (s_nil (k_seq (fetterlocklaw6_built.p11_ok Q rfl rfl)))))))))))))))))))))))))))))))))))))))))))))))))))))))))))))))))))))))))))))))))))))))))))))))))))))))))))))))))))
theorem fetterlocklaw6_built.slimOk : slimOk [] (Try.f19.body.getD .skip) = true := by kernel_rfl
theorem fetterlocklaw6_built.resC : resC Try.prog aggs Try.f19.ntmps (slim [] (Try.f19.body.getD .skip)) = some fetterlocklaw6_built.c := by kernel_rfl
theorem fetterlocklaw6_built.resR : resR Try.prog Try.f19.results.toList = some [.tm 0] := by kernel_rfl
theorem fetterlocklaw6_built.bodyEq : Try.f19.body = some (Try.f19.body.getD .skip) := by kernel_rfl
theorem fetterlocklaw6_built.run {H : AHeap} {Q : AHeap → Bool → Prop} (h : fetterlocklaw6_built.W H Q) : Fn.fetterlocklaw6_built H Q := by
  unfold Fn.fetterlocklaw6_built RunT
  exact run_of aggs_ok [] Try.func19 fetterlocklaw6_built.bodyEq fetterlocklaw6_built.slimOk fetterlocklaw6_built.resC fetterlocklaw6_built.resR (Nat.le_of_ble_eq_true (by kernel_rfl)) (fetterlocklaw6_built.ok Q h)
end Go.Proofs.Ytanaaabejeeakaa
end
section
/- Printed by a program: functions and what must hold ahead of them. -/
namespace Go.Proofs.Ytanaaabejeeakaa
open Go.AI
set_option maxRecDepth 100000
set_option maxHeartbeats 2000000
set_option linter.unusedVariables false
attribute [local irreducible] Ld Sto New NewS NewM NN NZ GE0 FA IA IAP LenS Slc App Cpy Clr MkS Fnc NilQ IxS Look MSet Run CV RunT CVT LoopT Same1 Same2 wpC wpOs wpT wpO wpOp

def solve_nodes.c27 : RC := (.seq (.ops [.put 26 (.mov (.tm 5)),
    .put 27 (.mov (.tm 1)),
    .put 28 (.ar .add (.tm 27) (.ct (.one (.int .i64 1)))),
    .put 29 (.min2 (.tm 26) (.tm 28)),
    .put 4 (.mov (.tm 29))]) .ret)
def solve_nodes.c9 : RC := (.seq (.ops [.put 12 (.cm .lt (.tm 11) (.tm 10))]) (.seq (.cond 12 .skip (.exit 0)) (.seq (.block 1 (.seq (.ops [.put 13 (.ia 3 (.tm 9) (.tm 11)),
    .put 14 (.ld true [.int .i64, .int .i64, .ac] (.tm 13)),
    .put 7 (.new 24 [(.int .i64 0), (.int .i64 0), (.sl none 0 0 (some 0))]),
    .run (.st 3 (.tm 7) (.tm 14))]) (.seq (.seq (.ops [.put 15 (.mov (.tm 5)),
    .put 16 (.mov (.tm 1)),
    .put 17 (.cm .gt (.tm 15) (.tm 16))]) (.cond 17 (.exit 0) .skip)) (.ops [.put 18 (.mov (.tm 5)),
    .put 19 (.ld true [.int .i64, .int .i64, .ac] (.tm 7)),
    .put 20 (.mov (.tm 1)),
    .put 21 (.mov (.tm 5)),
    .put 22 (.ar .sub (.tm 20) (.tm 21)),
    .put 23 (.call 46 [(.tm 19), (.tm 22)]),
    .put 24 (.ar .add (.tm 18) (.tm 23)),
    .put 5 (.mov (.tm 24))])))) (.ops [.put 25 (.ar .add (.tm 11) (.ct (.one (.int .i64 1)))),
    .put 11 (.mov (.tm 25))]))))
def solve_nodes.c : RC := (.seq (.ops [.put 2 (.box 24 (.tm 0)),
    .put 4 (.mov (.ct (.one (.int .i64 0))))]) (.seq (.ops [.put 5 (.mov (.ct (.one (.int .i64 1))))]) (.seq (.seq (.ops [.put 8 (.fa 2 (.tm 2)),
    .put 9 (.ld false [.ac] (.tm 8)),
    .put 10 (.lens (.tm 9)),
    .put 11 (.mov (.ct (.one (.int .i64 0))))]) (.block 0 (.loop solve_nodes.c9))) solve_nodes.c27)))
abbrev solve_nodes.KQ (Q : AHeap → Int → Prop) : AV → AHeap → Prop := fun v H => ∃ xs : Tup (flat [(false, [.int .i64])]), v = joinR (splitP [(false, [.int .i64])] (cellsOf (flat [(false, [.int .i64])]) xs)) ∧ app (flat [(false, [.int .i64])]) (Q H) xs
abbrev solve_nodes.K (Q : AHeap → Int → Prop) : Ex → Env → AHeap → Prop := kTop [.tm 4] (solve_nodes.KQ Q)
abbrev solve_nodes.k5 (Q : AHeap → Int → Prop) : Ex → Env → AHeap → Prop := kSeq (fun t H => wpC Try.prog solve_nodes.c27 t H (solve_nodes.K Q)) (solve_nodes.K Q)
def solve_nodes.R8 (s : Tup [.int .i64, .int .i64, .ac, .int .i64, .int .i64]) (t : Env) : Prop := t 1 = (.one (.int .i64 (s.1))) ∧ t 5 = (.one (.int .i64 (s.2.1))) ∧ t 9 = (.one (s.2.2.1)) ∧ t 10 = (.one (.int .i64 (s.2.2.2.1))) ∧ t 11 = (.one (.int .i64 (s.2.2.2.2.1))) ∧ True
def solve_nodes.p27 (Q : AHeap → Int → Prop) (x1 : Int) (x5 : Int) (H : AHeap) : Prop :=
  Q H (if (IntKind.wrap .i64 (x1 + 1)) < x5 then (IntKind.wrap .i64 (x1 + 1)) else x5)
def solve_nodes.b8 (Q : AHeap → Int → Prop) (Y8 : Tup [.int .i64, .int .i64, .ac, .int .i64, .int .i64] → AHeap → Prop) (x1 : Int) (x5 : Int) (x9 : AC) (x10 : Int) (x11 : Int) (H : AHeap) : Prop :=
  CondB (decide (x11 < x10))
    (IA 3 x9 x11 fun q_1 =>
    Ld [.int .i64, .int .i64, .ac] H q_1 fun (v_2 : Int) (v_3 : Int) (v_4 : AC) =>
    New 24 [(.int .i64 0), (.int .i64 0), (.sl none 0 0 (some 0))] H fun p_5 H_6 =>
    Sto H_6 p_5 [(.int .i64 v_2), (.int .i64 v_3), v_4] fun H_7 =>
    CondB (decide (x5 > x1))
      (solve_nodes.p27 Q x1 x5 H_7)
      (Ld [.int .i64, .int .i64, .ac] H_7 p_5 fun (v_8 : Int) (v_9 : Int) (v_10 : AC) =>
      Fn.solve_nodes v_8 v_9 v_10 (IntKind.wrap .i64 (x1 - x5)) H_7 fun H_11 (v_12 : Int) =>
      Y8 ((x1 : Int), ((IntKind.wrap .i64 (x5 + v_12)) : Int), x9, (x10 : Int), ((IntKind.wrap .i64 (x11 + 1)) : Int), ()) H_11))
    (solve_nodes.p27 Q x1 x5 H)
def solve_nodes.l8 (Q : AHeap → Int → Prop) (x1 : Int) (x5 : Int) (x9 : AC) (x10 : Int) (x11 : Int) (H : AHeap) : Prop := LoopT (Tup [.int .i64, .int .i64, .ac, .int .i64, .int .i64]) (fun Y s H => solve_nodes.b8 Q Y (s.1) (s.2.1) (s.2.2.1) (s.2.2.2.1) (s.2.2.2.2.1) H) (x1, x5, x9, x10, x11, ()) H
def solve_nodes.W (a0_0 : Int) (a0_1 : Int) (a0_2 : AC) (a1 : Int) (H : AHeap) (Q : AHeap → Int → Prop) : Prop :=
  New 24 [(.int .i64 a0_0), (.int .i64 a0_1), a0_2] H fun p_1 H_2 =>
  FA 2 p_1 fun q_3 =>
  Ld [.ac] H_2 q_3 fun (v_4 : AC) =>
  LenS v_4 fun n_5 =>
  solve_nodes.l8 Q a1 1 v_4 n_5 0 H_2
theorem solve_nodes.p27_okE (Q : AHeap → Int → Prop) {x1 : Int} {x5 : Int} {H : AHeap} (j : Env) : solve_nodes.p27 Q x1 x5 H → wpC Try.prog solve_nodes.c27 (upd (upd j 1 (.one (.int .i64 x1))) 5 (.one (.int .i64 x5))) H (solve_nodes.K Q) := c_seq (c_ops (s_cons (w_put (o_mov rfl (s_cons (w_put (o_mov rfl (s_cons (w_put (o_add rfl rfl (s_cons (w_put (o_min2 rfl rfl (s_cons (w_put (o_mov rfl (s_nil (k_seq (c_ret (k_topR (r_one rfl (r_nil (fun h => ⟨(((if (IntKind.wrap .i64 (x1 + 1)) < x5 then (IntKind.wrap .i64 (x1 + 1)) else x5) : Int), ()), rfl, h⟩)))))))))))))))))))))))
theorem solve_nodes.p27_ok (Q : AHeap → Int → Prop) {x1 : Int} {x5 : Int} {H : AHeap} {t : Env} (h1 : t 1 = (.one (.int .i64 x1))) (h5 : t 5 = (.one (.int .i64 x5))) (h : solve_nodes.p27 Q x1 x5 H) : wpC Try.prog solve_nodes.c27 t H (solve_nodes.K Q) := by
  have g := solve_nodes.p27_okE Q t h
  rw [upd_self h1] at g
  rw [upd_self h5] at g
  exact g
theorem solve_nodes.b8_ok (Q : AHeap → Int → Prop) (Y8 : Tup [.int .i64, .int .i64, .ac, .int .i64, .int .i64] → AHeap → Prop) (X8 : Env → AHeap → Prop) (hX8 : ∀ s t H, solve_nodes.R8 s t → Y8 s H → X8 t H) {x1 : Int} {x5 : Int} {x9 : AC} {x10 : Int} {x11 : Int} {H : AHeap} (j : Env) : solve_nodes.b8 Q Y8 x1 x5 x9 x10 x11 H → wpC Try.prog solve_nodes.c9 (upd (upd (upd (upd (upd j 1 (.one (.int .i64 x1))) 5 (.one (.int .i64 x5))) 9 (.one x9)) 10 (.one (.int .i64 x10))) 11 (.one (.int .i64 x11))) H (kSeq X8 (kBlk 0 (solve_nodes.k5 Q))) := c_seq (c_ops (s_cons (w_put (o_lt rfl rfl (s_nil (k_seq (c_seq (c_if rfl (c_skip (k_seq (c_seq (c_blk (c_seq (c_ops (s_cons (w_put (o_ia rfl rfl (fun q_1 => s_cons (w_put (o_ld3 rfl (fun (v_2 : Int) (v_3 : Int) (v_4 : AC) => s_cons (w_put (o_new (fun p_5 H_6 => s_cons (w_run (o_st rfl rfl rfl (fun H_7 => s_nil (k_seq (c_seq (c_seq (c_ops (s_cons (w_put (o_mov rfl (s_cons (w_put (o_mov rfl (s_cons (w_put (o_gt rfl rfl (s_nil (k_seq (c_if rfl (c_exit (k_seqE (k_blkP rfl (k_seqE (k_seqE (k_blkH (k_seq (solve_nodes.p27_ok Q rfl rfl)))))))) (c_skip (k_seq (c_ops (s_cons (w_put (o_mov rfl (s_cons (w_put (o_ld3 rfl (fun (v_8 : Int) (v_9 : Int) (v_10 : AC) => s_cons (w_put (o_mov rfl (s_cons (w_put (o_mov rfl (s_cons (w_put (o_sub rfl rfl (s_cons (w_put (o_call rfl (cv_1 (fun H_11 (v_12 : Int) => s_cons (w_put (o_add rfl rfl (s_cons (w_put (o_mov rfl (s_nil (k_blk (k_seq (c_ops (s_cons (w_put (o_add rfl rfl (s_cons (w_put (o_mov rfl (s_nil (k_seq (hX8 _ _ _ ⟨rfl, rfl, rfl, rfl, rfl, trivial⟩)))))))))))))))))))))))))))))))))))))))))))))))))))))))))))))))))))))))))))) (c_exit (k_seqE (k_seqE (k_blkH (k_seq (solve_nodes.p27_ok Q rfl rfl))))))))))))))
theorem solve_nodes.l8_ok (Q : AHeap → Int → Prop) {x1 : Int} {x5 : Int} {x9 : AC} {x10 : Int} {x11 : Int} {H : AHeap} {t : Env} (h1 : t 1 = (.one (.int .i64 x1))) (h5 : t 5 = (.one (.int .i64 x5))) (h9 : t 9 = (.one x9)) (h10 : t 10 = (.one (.int .i64 x10))) (h11 : t 11 = (.one (.int .i64 x11))) : solve_nodes.l8 Q x1 x5 x9 x10 x11 H → wpC Try.prog (.loop solve_nodes.c9) t H (kBlk 0 (solve_nodes.k5 Q)) :=
  m_loop solve_nodes.R8 ⟨h1, h5, h9, h10, h11, trivial⟩ fun X Y hX s t H hR hB => by
    have g := solve_nodes.b8_ok Q Y X hX t hB
    rw [upd_self hR.1] at g
    rw [upd_self hR.2.1] at g
    rw [upd_self hR.2.2.1] at g
    rw [upd_self hR.2.2.2.1] at g
    rw [upd_self hR.2.2.2.2.1] at g
    exact g
theorem solve_nodes.ok {a0_0 : Int} {a0_1 : Int} {a0_2 : AC} {a1 : Int} {H : AHeap} (Q : AHeap → Int → Prop) : solve_nodes.W a0_0 a0_1 a0_2 a1 H Q → wpF Try.prog solve_nodes.c [.tm 4] (envOf [(.agg [(.int .i64 a0_0), (.int .i64 a0_1), a0_2]), (.one (.int .i64 a1))]) H (solve_nodes.KQ Q) := c_seq (c_ops (s_cons (w_put (o_box rfl (fun p_1 H_2 => s_cons (w_put (o_mov rfl (s_nil (k_seq (c_seq (c_ops (s_cons (w_put (o_mov rfl (s_nil (k_seq (c_seq (c_seq (c_ops (s_cons (w_put (o_fa rfl (fun q_3 => s_cons (w_put (o_ld1 rfl (fun (v_4 : AC) => s_cons (w_put (o_lens rfl (fun n_5 => s_cons (w_put (o_mov rfl (s_nil (k_seq (c_blk (solve_nodes.l8_ok Q rfl rfl rfl rfl rfl)))))))))))))))))))))))))))))))))))
theorem solve_nodes.slimOk : slimOk [] (Try.f46.body.getD .skip) = true := by kernel_rfl
theorem solve_nodes.resC : resC Try.prog aggs Try.f46.ntmps (slim [] (Try.f46.body.getD .skip)) = some solve_nodes.c := by kernel_rfl
theorem solve_nodes.resR : resR Try.prog Try.f46.results.toList = some [.tm 4] := by kernel_rfl
theorem solve_nodes.bodyEq : Try.f46.body = some (Try.f46.body.getD .skip) := by kernel_rfl
theorem solve_nodes.run {a0_0 : Int} {a0_1 : Int} {a0_2 : AC} {a1 : Int} {H : AHeap} {Q : AHeap → Int → Prop} (h : solve_nodes.W a0_0 a0_1 a0_2 a1 H Q) : Fn.solve_nodes a0_0 a0_1 a0_2 a1 H Q := by
  unfold Fn.solve_nodes RunT
  exact run_of aggs_ok [] Try.func46 solve_nodes.bodyEq solve_nodes.slimOk solve_nodes.resC solve_nodes.resR (Nat.le_of_ble_eq_true (by kernel_rfl)) (solve_nodes.ok Q h)

def solve_boolFault.c59 : RC := (.seq (.ops [.put 47 (.cm .lt (.tm 46) (.tm 45))]) (.seq (.cond 47 .skip (.exit 2)) (.seq (.block 3 (.seq (.ops [.put 48 (.ia 3 (.tm 44) (.tm 46)),
    .put 49 (.ld true [.int .i64, .int .i64, .ac] (.tm 48)),
    .put 6 (.new 24 [(.int .i64 0), (.int .i64 0), (.sl none 0 0 (some 0))]),
    .run (.st 3 (.tm 6) (.tm 49))]) (.seq (.ops [.put 50 (.ld true [.int .i64, .int .i64, .ac] (.tm 6)),
    .put 51 (.call 47 [(.tm 50)]),
    .put 7 (.mov (.tm 51))]) (.seq (.ops [.put 52 (.mov (.tm 7)),
    .put 53 (.cm .ne (.tm 52) (.ct (.one (.int .i64 0))))]) (.cond 53 (.seq (.ops [.put 54 (.mov (.tm 7)),
    .put 2 (.mov (.tm 54))]) .ret) .skip))))) (.ops [.put 55 (.ar .add (.tm 46) (.ct (.one (.int .i64 1)))),
    .put 46 (.mov (.tm 55))]))))
def solve_boolFault.c49 : RC := (.cond 33 (.seq (.ops [.put 2 (.mov (.ct (.one (.int .i64 1))))]) .ret) .skip)
def solve_boolFault.c43 : RC := (.cond 23 (.seq (.ops [.put 2 (.mov (.ct (.one (.int .i64 2))))]) .ret) (.seq (.ops [.put 34 (.fa 1 (.tm 1)),
    .put 35 (.ld false [.int .i64] (.tm 34)),
    .put 36 (.cm .lt (.tm 35) (.ct (.one (.int .i64 0)))),
    .put 37 (.mov (.tm 36)),
    .gput 38 37 false (.fa 1 (.tm 1)),
    .gput 39 37 false (.ld false [.int .i64] (.tm 38)),
    .gput 40 37 false (.mov (.tm 4)),
    .gput 41 37 false (.cm .gt (.tm 39) (.tm 40)),
    .put 42 (.pick (.tm 37) (.ct (.one (.bool true))) (.tm 41)),
    .put 33 (.mov (.tm 42))]) solve_boolFault.c49))
def solve_boolFault.c39 : RC := (.seq (.block 1 (.seq (.ops [.put 24 (.mov (.tm 3)),
    .put 25 (.cm .ge (.tm 24) (.ct (.one (.int .i64 0)))),
    .put 26 (.mov (.tm 25)),
    .gput 27 26 true (.fa 2 (.tm 1)),
    .gput 28 26 true (.ld false [.ac] (.tm 27)),
    .gput 29 26 true (.lens (.tm 28)),
    .gput 30 26 true (.mov (.tm 3)),
    .gput 31 26 true (.cm .ne (.tm 29) (.tm 30)),
    .put 32 (.pick (.tm 26) (.tm 31) (.ct (.one (.bool false)))),
    .put 23 (.mov (.tm 32))]) solve_boolFault.c43)) (.seq (.seq (.ops [.put 43 (.fa 2 (.tm 1)),
    .put 44 (.ld false [.ac] (.tm 43)),
    .put 45 (.lens (.tm 44)),
    .put 46 (.mov (.ct (.one (.int .i64 0))))]) (.block 2 (.loop solve_boolFault.c59))) (.seq (.ops [.put 2 (.mov (.ct (.one (.int .i64 0))))]) .ret)))
def solve_boolFault.c34 : RC := (.cond 20 .skip (.seq (.ops [.put 2 (.mov (.ct (.one (.int .i64 7))))]) .ret))
def solve_boolFault.c : RC := (.seq (.ops [.put 1 (.box 24 (.tm 0)),
    .put 2 (.mov (.ct (.one (.int .i64 0))))]) (.seq (.ops [.put 3 (.mov (.ct (.one (.int .i64 (-1))))),
    .put 4 (.mov (.ct (.one (.int .i64 0))))]) (.seq (.seq (.ops [.put 8 (.fa 0 (.tm 1)),
    .put 9 (.ld false [.int .i64] (.tm 8))]) (.block 0 (.seq (.ops [.put 11 (.cm .eq (.tm 9) (.ct (.one (.int .i64 1)))),
    .put 10 (.mov (.tm 11))]) (.cond 10 (.ops [.put 3 (.mov (.ct (.one (.int .i64 0)))),
    .put 4 (.mov (.ct (.one (.int .i64 15))))]) (.seq (.ops [.put 13 (.cm .eq (.tm 9) (.ct (.one (.int .i64 2)))),
    .put 12 (.mov (.tm 13))]) (.cond 12 (.ops [.put 3 (.mov (.ct (.one (.int .i64 0)))),
    .put 4 (.mov (.ct (.one (.int .i64 1))))]) (.seq (.ops [.put 15 (.cm .eq (.tm 9) (.ct (.one (.int .i64 3)))),
    .put 14 (.mov (.tm 15))]) (.cond 14 (.ops [.put 3 (.mov (.ct (.one (.int .i64 1))))]) (.seq (.ops [.put 17 (.cm .eq (.tm 9) (.ct (.one (.int .i64 6)))),
    .put 16 (.mov (.tm 17))]) (.cond 16 (.ops [.put 3 (.mov (.ct (.one (.int .i64 2))))]) (.seq (.ops [.put 19 (.cm .eq (.tm 9) (.ct (.one (.int .i64 7)))),
    .put 18 (.mov (.tm 19))]) (.cond 18 (.ops [.put 3 (.mov (.ct (.one (.int .i64 3))))]) (.seq (.seq (.ops [.put 21 (.cm .eq (.tm 9) (.ct (.one (.int .i64 4)))),
    .put 20 (.mov (.tm 21))]) (.cond 20 .skip (.ops [.put 22 (.cm .eq (.tm 9) (.ct (.one (.int .i64 5)))),
    .put 20 (.mov (.tm 22))]))) solve_boolFault.c34))))))))))))) solve_boolFault.c39)))
abbrev solve_boolFault.KQ (Q : AHeap → Int → Prop) : AV → AHeap → Prop := fun v H => ∃ xs : Tup (flat [(false, [.int .i64])]), v = joinR (splitP [(false, [.int .i64])] (cellsOf (flat [(false, [.int .i64])]) xs)) ∧ app (flat [(false, [.int .i64])]) (Q H) xs
abbrev solve_boolFault.K (Q : AHeap → Int → Prop) : Ex → Env → AHeap → Prop := kTop [.tm 2] (solve_boolFault.KQ Q)
abbrev solve_boolFault.k5 (Q : AHeap → Int → Prop) : Ex → Env → AHeap → Prop := kSeq (fun t H => wpC Try.prog solve_boolFault.c39 t H (solve_boolFault.K Q)) (solve_boolFault.K Q)
abbrev solve_boolFault.k40 (Q : AHeap → Int → Prop) : Ex → Env → AHeap → Prop := kSeq (fun t H => wpC Try.prog (.seq (.seq (.ops [.put 43 (.fa 2 (.tm 1)),
    .put 44 (.ld false [.ac] (.tm 43)),
    .put 45 (.lens (.tm 44)),
    .put 46 (.mov (.ct (.one (.int .i64 0))))]) (.block 2 (.loop solve_boolFault.c59))) (.seq (.ops [.put 2 (.mov (.ct (.one (.int .i64 0))))]) .ret)) t H (solve_boolFault.K Q)) (solve_boolFault.K Q)
abbrev solve_boolFault.k55 (Q : AHeap → Int → Prop) : Ex → Env → AHeap → Prop := kSeq (fun t H => wpC Try.prog (.seq (.ops [.put 2 (.mov (.ct (.one (.int .i64 0))))]) .ret) t H (solve_boolFault.K Q)) (solve_boolFault.K Q)
def solve_boolFault.R58 (s : Tup [.ac, .int .i64, .int .i64]) (t : Env) : Prop := t 44 = (.one (s.1)) ∧ t 45 = (.one (.int .i64 (s.2.1))) ∧ t 46 = (.one (.int .i64 (s.2.2.1))) ∧ True
def solve_boolFault.b58 (Q : AHeap → Int → Prop) (Y58 : Tup [.ac, .int .i64, .int .i64] → AHeap → Prop) (x44 : AC) (x45 : Int) (x46 : Int) (H : AHeap) : Prop :=
  CondB (decide (x46 < x45))
    (IA 3 x44 x46 fun q_1 =>
    Ld [.int .i64, .int .i64, .ac] H q_1 fun (v_2 : Int) (v_3 : Int) (v_4 : AC) =>
    New 24 [(.int .i64 0), (.int .i64 0), (.sl none 0 0 (some 0))] H fun p_5 H_6 =>
    Sto H_6 p_5 [(.int .i64 v_2), (.int .i64 v_3), v_4] fun H_7 =>
    Ld [.int .i64, .int .i64, .ac] H_7 p_5 fun (v_8 : Int) (v_9 : Int) (v_10 : AC) =>
    Fn.solve_boolFault v_8 v_9 v_10 H_7 fun H_11 (v_12 : Int) =>
    CondB (v_12 != 0)
      (Q H_11 v_12)
      (Y58 (x44, (x45 : Int), ((IntKind.wrap .i64 (x46 + 1)) : Int), ()) H_11))
    (Q H 0)
def solve_boolFault.l58 (Q : AHeap → Int → Prop) (x44 : AC) (x45 : Int) (x46 : Int) (H : AHeap) : Prop := LoopT (Tup [.ac, .int .i64, .int .i64]) (fun Y s H => solve_boolFault.b58 Q Y (s.1) (s.2.1) (s.2.2.1) H) (x44, x45, x46, ()) H
def solve_boolFault.p49 (Q : AHeap → Int → Prop) (x1 : AC) (x33 : Bool) (H : AHeap) : Prop :=
  CondB x33
    (Q H 1)
    (FA 2 x1 fun q_1 =>
    Ld [.ac] H q_1 fun (v_2 : AC) =>
    LenS v_2 fun n_3 =>
    solve_boolFault.l58 Q v_2 n_3 0 H)
def solve_boolFault.p43 (Q : AHeap → Int → Prop) (x1 : AC) (x4 : Int) (x23 : Bool) (H : AHeap) : Prop :=
  CondB x23
    (Q H 2)
    (FA 1 x1 fun q_1 =>
    Ld [.int .i64] H q_1 fun (v_2 : Int) =>
    CondB (decide (v_2 < 0))
      (solve_boolFault.p49 Q x1 true H)
      (FA 1 x1 fun q_3 =>
      Ld [.int .i64] H q_3 fun (v_4 : Int) =>
      solve_boolFault.p49 Q x1 (decide (v_4 > x4)) H))
def solve_boolFault.p39 (Q : AHeap → Int → Prop) (x1 : AC) (x3 : Int) (x4 : Int) (H : AHeap) : Prop :=
  CondB (decide (x3 ≥ 0))
    (FA 2 x1 fun q_1 =>
    Ld [.ac] H q_1 fun (v_2 : AC) =>
    LenS v_2 fun n_3 =>
    solve_boolFault.p43 Q x1 x4 (n_3 != x3) H)
    (solve_boolFault.p43 Q x1 x4 false H)
def solve_boolFault.p34 (Q : AHeap → Int → Prop) (x1 : AC) (x3 : Int) (x4 : Int) (x20 : Bool) (H : AHeap) : Prop :=
  CondB x20
    (solve_boolFault.p39 Q x1 x3 x4 H)
    (Q H 7)
def solve_boolFault.W (a0_0 : Int) (a0_1 : Int) (a0_2 : AC) (H : AHeap) (Q : AHeap → Int → Prop) : Prop :=
  New 24 [(.int .i64 a0_0), (.int .i64 a0_1), a0_2] H fun p_1 H_2 =>
  FA 0 p_1 fun q_3 =>
  Ld [.int .i64] H_2 q_3 fun (v_4 : Int) =>
  CondB (v_4 == 1)
    (solve_boolFault.p39 Q p_1 0 15 H_2)
    (CondB (v_4 == 2)
      (solve_boolFault.p39 Q p_1 0 1 H_2)
      (CondB (v_4 == 3)
        (solve_boolFault.p39 Q p_1 1 0 H_2)
        (CondB (v_4 == 6)
          (solve_boolFault.p39 Q p_1 2 0 H_2)
          (CondB (v_4 == 7)
            (solve_boolFault.p39 Q p_1 3 0 H_2)
            (CondB (v_4 == 4)
              (solve_boolFault.p34 Q p_1 (-1) 0 true H_2)
              (solve_boolFault.p34 Q p_1 (-1) 0 (v_4 == 5) H_2))))))
theorem solve_boolFault.b58_ok (Q : AHeap → Int → Prop) (Y58 : Tup [.ac, .int .i64, .int .i64] → AHeap → Prop) (X58 : Env → AHeap → Prop) (hX58 : ∀ s t H, solve_boolFault.R58 s t → Y58 s H → X58 t H) {x44 : AC} {x45 : Int} {x46 : Int} {H : AHeap} (j : Env) : solve_boolFault.b58 Q Y58 x44 x45 x46 H → wpC Try.prog solve_boolFault.c59 (upd (upd (upd j 44 (.one x44)) 45 (.one (.int .i64 x45))) 46 (.one (.int .i64 x46))) H (kSeq X58 (kBlk 2 (solve_boolFault.k55 Q))) := c_seq (c_ops (s_cons (w_put (o_lt rfl rfl (s_nil (k_seq (c_seq (c_if rfl (c_skip (k_seq (c_seq (c_blk (c_seq (c_ops (s_cons (w_put (o_ia rfl rfl (fun q_1 => s_cons (w_put (o_ld3 rfl (fun (v_2 : Int) (v_3 : Int) (v_4 : AC) => s_cons (w_put (o_new (fun p_5 H_6 => s_cons (w_run (o_st rfl rfl rfl (fun H_7 => s_nil (k_seq (c_seq (c_ops (s_cons (w_put (o_ld3 rfl (fun (v_8 : Int) (v_9 : Int) (v_10 : AC) => s_cons (w_put (o_call rfl (cv_1 (fun H_11 (v_12 : Int) => s_cons (w_put (o_mov rfl (s_nil (k_seq (c_seq (c_ops (s_cons (w_put (o_mov rfl (s_cons (w_put (o_ne rfl rfl (s_nil (k_seq (c_if rfl (c_seq (c_ops (s_cons (w_put (o_mov rfl (s_cons (w_put (o_mov rfl (s_nil (k_seq (c_ret (k_blkR (k_seqR (k_seqR (k_blkR (k_seqR (k_topR (r_one rfl (r_nil (fun h => ⟨((v_12 : Int), ()), rfl, h⟩)))))))))))))))))))) (c_skip (k_blk (k_seq (c_ops (s_cons (w_put (o_add rfl rfl (s_cons (w_put (o_mov rfl (s_nil (k_seq (hX58 _ _ _ ⟨rfl, rfl, rfl, trivial⟩)))))))))))))))))))))))))))))))))))))))))))))))))))))))))) (c_exit (k_seqE (k_seqE (k_blkH (k_seq (c_seq (c_ops (s_cons (w_put (o_mov rfl (s_nil (k_seq (c_ret (k_topR (r_one rfl (r_nil (fun h => ⟨((0 : Int), ()), rfl, h⟩)))))))))))))))))))))))))
theorem solve_boolFault.l58_ok (Q : AHeap → Int → Prop) {x44 : AC} {x45 : Int} {x46 : Int} {H : AHeap} {t : Env} (h44 : t 44 = (.one x44)) (h45 : t 45 = (.one (.int .i64 x45))) (h46 : t 46 = (.one (.int .i64 x46))) : solve_boolFault.l58 Q x44 x45 x46 H → wpC Try.prog (.loop solve_boolFault.c59) t H (kBlk 2 (solve_boolFault.k55 Q)) :=
  m_loop solve_boolFault.R58 ⟨h44, h45, h46, trivial⟩ fun X Y hX s t H hR hB => by
    have g := solve_boolFault.b58_ok Q Y X hX t hB
    rw [upd_self hR.1] at g
    rw [upd_self hR.2.1] at g
    rw [upd_self hR.2.2.1] at g
    exact g
theorem solve_boolFault.p49_okE (Q : AHeap → Int → Prop) {x1 : AC} {x33 : Bool} {H : AHeap} (j : Env) : solve_boolFault.p49 Q x1 x33 H → wpC Try.prog solve_boolFault.c49 (upd (upd j 1 (.one x1)) 33 (.one (.bool x33))) H (kBlk 1 (solve_boolFault.k40 Q)) := c_if rfl (c_seq (c_ops (s_cons (w_put (o_mov rfl (s_nil (k_seq (c_ret (k_blkR (k_seqR (k_topR (r_one rfl (r_nil (fun h => ⟨((1 : Int), ()), rfl, h⟩)))))))))))))) (c_skip (k_blk (k_seq (c_seq (c_seq (c_ops (s_cons (w_put (o_fa rfl (fun q_1 => s_cons (w_put (o_ld1 rfl (fun (v_2 : AC) => s_cons (w_put (o_lens rfl (fun n_3 => s_cons (w_put (o_mov rfl (s_nil (k_seq (c_blk (solve_boolFault.l58_ok Q rfl rfl rfl))))))))))))))))))))))
theorem solve_boolFault.p49_ok (Q : AHeap → Int → Prop) {x1 : AC} {x33 : Bool} {H : AHeap} {t : Env} (h1 : t 1 = (.one x1)) (h33 : t 33 = (.one (.bool x33))) (h : solve_boolFault.p49 Q x1 x33 H) : wpC Try.prog solve_boolFault.c49 t H (kBlk 1 (solve_boolFault.k40 Q)) := by
  have g := solve_boolFault.p49_okE Q t h
  rw [upd_self h1] at g
  rw [upd_self h33] at g
  exact g
theorem solve_boolFault.p43_okE (Q : AHeap → Int → Prop) {x1 : AC} {x4 : Int} {x23 : Bool} {H : AHeap} (j : Env) : solve_boolFault.p43 Q x1 x4 x23 H → wpC Try.prog solve_boolFault.c43 (upd (upd (upd j 1 (.one x1)) 4 (.one (.int .i64 x4))) 23 (.one (.bool x23))) H (kBlk 1 (solve_boolFault.k40 Q)) := c_if rfl (c_seq (c_ops (s_cons (w_put (o_mov rfl (s_nil (k_seq (c_ret (k_blkR (k_seqR (k_topR (r_one rfl (r_nil (fun h => ⟨((2 : Int), ()), rfl, h⟩)))))))))))))) (c_seq (c_ops (s_cons (w_put (o_fa rfl (fun q_1 => s_cons (w_put (o_ld1 rfl (fun (v_2 : Int) => s_cons (w_put (o_lt rfl rfl (s_cons (w_put (o_mov rfl (s_cons (w_gputF rfl (s_cons (w_gputN rfl (s_cons (w_gputN rfl (s_cons (w_gputN rfl (s_cons (w_put (o_pickT rfl rfl (s_cons (w_put (o_mov rfl (s_nil (k_seq (solve_boolFault.p49_ok Q rfl rfl))))))))))))))) (o_fa rfl (fun q_3 => s_cons (w_gputY rfl (o_ld1 rfl (fun (v_4 : Int) => s_cons (w_gputY rfl (o_mov rfl (s_cons (w_gputY rfl (o_gt rfl rfl (s_cons (w_put (o_pickF rfl rfl (s_cons (w_put (o_mov rfl (s_nil (k_seq (solve_boolFault.p49_ok Q rfl rfl)))))))))))))))))))))))))))))))))))
theorem solve_boolFault.p43_ok (Q : AHeap → Int → Prop) {x1 : AC} {x4 : Int} {x23 : Bool} {H : AHeap} {t : Env} (h1 : t 1 = (.one x1)) (h4 : t 4 = (.one (.int .i64 x4))) (h23 : t 23 = (.one (.bool x23))) (h : solve_boolFault.p43 Q x1 x4 x23 H) : wpC Try.prog solve_boolFault.c43 t H (kBlk 1 (solve_boolFault.k40 Q)) := by
  have g := solve_boolFault.p43_okE Q t h
  rw [upd_self h1] at g
  rw [upd_self h4] at g
  rw [upd_self h23] at g
  exact g
theorem solve_boolFault.p39_okE (Q : AHeap → Int → Prop) {x1 : AC} {x3 : Int} {x4 : Int} {H : AHeap} (j : Env) : solve_boolFault.p39 Q x1 x3 x4 H → wpC Try.prog solve_boolFault.c39 (upd (upd (upd j 1 (.one x1)) 3 (.one (.int .i64 x3))) 4 (.one (.int .i64 x4))) H (solve_boolFault.K Q) := c_seq (c_blk (c_seq (c_ops (s_cons (w_put (o_mov rfl (s_cons (w_put (o_ge rfl rfl (s_cons (w_put (o_mov rfl (s_cons (w_gputT rfl (o_fa rfl (fun q_1 => s_cons (w_gputY rfl (o_ld1 rfl (fun (v_2 : AC) => s_cons (w_gputY rfl (o_lens rfl (fun n_3 => s_cons (w_gputY rfl (o_mov rfl (s_cons (w_gputY rfl (o_ne rfl rfl (s_cons (w_put (o_pickT rfl rfl (s_cons (w_put (o_mov rfl (s_nil (k_seq (solve_boolFault.p43_ok Q rfl rfl rfl)))))))))))))))))))))) (s_cons (w_gputN rfl (s_cons (w_gputN rfl (s_cons (w_gputN rfl (s_cons (w_gputN rfl (s_cons (w_put (o_pickF rfl rfl (s_cons (w_put (o_mov rfl (s_nil (k_seq (solve_boolFault.p43_ok Q rfl rfl rfl)))))))))))))))))))))))))))))))
theorem solve_boolFault.p39_ok (Q : AHeap → Int → Prop) {x1 : AC} {x3 : Int} {x4 : Int} {H : AHeap} {t : Env} (h1 : t 1 = (.one x1)) (h3 : t 3 = (.one (.int .i64 x3))) (h4 : t 4 = (.one (.int .i64 x4))) (h : solve_boolFault.p39 Q x1 x3 x4 H) : wpC Try.prog solve_boolFault.c39 t H (solve_boolFault.K Q) := by
  have g := solve_boolFault.p39_okE Q t h
  rw [upd_self h1] at g
  rw [upd_self h3] at g
  rw [upd_self h4] at g
  exact g
theorem solve_boolFault.p34_okE (Q : AHeap → Int → Prop) {x1 : AC} {x3 : Int} {x4 : Int} {x20 : Bool} {H : AHeap} (j : Env) : solve_boolFault.p34 Q x1 x3 x4 x20 H → wpC Try.prog solve_boolFault.c34 (upd (upd (upd (upd j 1 (.one x1)) 3 (.one (.int .i64 x3))) 4 (.one (.int .i64 x4))) 20 (.one (.bool x20))) H (kBlk 0 (solve_boolFault.k5 Q)) := c_if rfl (c_skip (k_blk (k_seq (solve_boolFault.p39_ok Q rfl rfl rfl)))) (c_seq (c_ops (s_cons (w_put (o_mov rfl (s_nil (k_seq (c_ret (k_blkR (k_seqR (k_topR (r_one rfl (r_nil (fun h => ⟨((7 : Int), ()), rfl, h⟩))))))))))))))
theorem solve_boolFault.p34_ok (Q : AHeap → Int → Prop) {x1 : AC} {x3 : Int} {x4 : Int} {x20 : Bool} {H : AHeap} {t : Env} (h1 : t 1 = (.one x1)) (h3 : t 3 = (.one (.int .i64 x3))) (h4 : t 4 = (.one (.int .i64 x4))) (h20 : t 20 = (.one (.bool x20))) (h : solve_boolFault.p34 Q x1 x3 x4 x20 H) : wpC Try.prog solve_boolFault.c34 t H (kBlk 0 (solve_boolFault.k5 Q)) := by
  have g := solve_boolFault.p34_okE Q t h
  rw [upd_self h1] at g
  rw [upd_self h3] at g
  rw [upd_self h4] at g
  rw [upd_self h20] at g
  exact g
theorem solve_boolFault.ok {a0_0 : Int} {a0_1 : Int} {a0_2 : AC} {H : AHeap} (Q : AHeap → Int → Prop) : solve_boolFault.W a0_0 a0_1 a0_2 H Q → wpF Try.prog solve_boolFault.c [.tm 2] (envOf [(.agg [(.int .i64 a0_0), (.int .i64 a0_1), a0_2])]) H (solve_boolFault.KQ Q) := c_seq (c_ops (s_cons (w_put (o_box rfl (fun p_1 H_2 => s_cons (w_put (o_mov rfl (s_nil (k_seq (c_seq (c_ops (s_cons (w_put (o_mov rfl (s_cons (w_put (o_mov rfl (s_nil (k_seq (c_seq (c_seq (c_ops (s_cons (w_put (o_fa rfl (fun q_3 => s_cons (w_put (o_ld1 rfl (fun (v_4 : Int) => s_nil (k_seq (c_blk (c_seq (c_ops (s_cons (w_put (o_eq rfl rfl (s_cons (w_put (o_mov rfl (s_nil (k_seq (c_if rfl (c_ops (s_cons (w_put (o_mov rfl (s_cons (w_put (o_mov rfl (s_nil (k_blk (k_seq (solve_boolFault.p39_ok Q rfl rfl rfl))))))))))) (c_seq (c_ops (s_cons (w_put (o_eq rfl rfl (s_cons (w_put (o_mov rfl (s_nil (k_seq (c_if rfl (c_ops (s_cons (w_put (o_mov rfl (s_cons (w_put (o_mov rfl (s_nil (k_blk (k_seq (solve_boolFault.p39_ok Q rfl rfl rfl))))))))))) (c_seq (c_ops (s_cons (w_put (o_eq rfl rfl (s_cons (w_put (o_mov rfl (s_nil (k_seq (c_if rfl (c_ops (s_cons (w_put (o_mov rfl (s_nil (k_blk (k_seq (solve_boolFault.p39_ok Q rfl rfl rfl)))))))) (c_seq (c_ops (s_cons (w_put (o_eq rfl rfl (s_cons (w_put (o_mov rfl (s_nil (k_seq (c_if rfl (c_ops (s_cons (w_put (o_mov rfl (s_nil (k_blk (k_seq (solve_boolFault.p39_ok Q rfl rfl rfl)))))))) (c_seq (c_ops (s_cons (w_put (o_eq rfl rfl (s_cons (w_put (o_mov rfl (s_nil (k_seq (c_if rfl (c_ops (s_cons (w_put (o_mov rfl (s_nil (k_blk (k_seq (solve_boolFault.p39_ok Q rfl rfl rfl)))))))) (c_seq (c_seq (c_ops (s_cons (w_put (o_eq rfl rfl (s_cons (w_put (o_mov rfl (s_nil (k_seq (c_if rfl (c_skip (k_seq (solve_boolFault.p34_ok Q rfl rfl rfl rfl))) (c_ops (s_cons (w_put (o_eq rfl rfl (s_cons (w_put (o_mov rfl (s_nil (k_seq (solve_boolFault.p34_ok Q rfl rfl rfl rfl))))))))))))))))))))))))))))))))))))))))))))))))))))))))))))))))))))))))))))))))))))))))))))))))))))))))))))
theorem solve_boolFault.slimOk : slimOk [] (Try.f47.body.getD .skip) = true := by kernel_rfl
theorem solve_boolFault.resC : resC Try.prog aggs Try.f47.ntmps (slim [] (Try.f47.body.getD .skip)) = some solve_boolFault.c := by kernel_rfl
theorem solve_boolFault.resR : resR Try.prog Try.f47.results.toList = some [.tm 2] := by kernel_rfl
theorem solve_boolFault.bodyEq : Try.f47.body = some (Try.f47.body.getD .skip) := by kernel_rfl
theorem solve_boolFault.run {a0_0 : Int} {a0_1 : Int} {a0_2 : AC} {H : AHeap} {Q : AHeap → Int → Prop} (h : solve_boolFault.W a0_0 a0_1 a0_2 H Q) : Fn.solve_boolFault a0_0 a0_1 a0_2 H Q := by
  unfold Fn.solve_boolFault RunT
  exact run_of aggs_ok [] Try.func47 solve_boolFault.bodyEq solve_boolFault.slimOk solve_boolFault.resC solve_boolFault.resR (Nat.le_of_ble_eq_true (by kernel_rfl)) (solve_boolFault.ok Q h)
end Go.Proofs.Ytanaaabejeeakaa
end
section
/- Printed by a program: functions and what must hold ahead of them. -/
namespace Go.Proofs.Ytanaaabejeeakaa
open Go.AI
set_option maxRecDepth 100000
set_option maxHeartbeats 2000000
set_option linter.unusedVariables false
attribute [local irreducible] Ld Sto New NewS NewM NN NZ GE0 FA IA IAP LenS Slc App Cpy Clr MkS Fnc NilQ IxS Look MSet Run CV RunT CVT LoopT Same1 Same2 wpC wpOs wpT wpO wpOp

def fetterlockref6_walk.c67 : RC := (.cond 90 (.seq (.ops [.put 91 (.fa 2 (.tm 3)),
    .run (.st 1 (.tm 91) (.ct (.one (.bool true))))]) (.seq (.ops [.put 92 (.ld true [.ac, .ac, .bool] (.tm 3)),
    .run (.st 3 (.tm 6) (.tm 92)),
    .put 7 (.mov (.ct (.one (.int .i64 0))))]) .ret)) .skip)
def fetterlockref6_walk.c50 : RC := (.cond 60 (.seq (.ops [.put 61 (.ld true [.ac, .ac, .bool] (.tm 3)),
    .put 62 (.mov (.tm 9)),
    .run (.st 3 (.tm 6) (.tm 61)),
    .put 7 (.mov (.tm 62))]) .ret) .skip)
def fetterlockref6_walk.c40 : RC := (.seq (.seq (.ops [.put 37 (.mov (.tm 9)),
    .put 38 (.fa 0 (.tm 3)),
    .put 39 (.ld false [.ac] (.tm 38)),
    .put 40 (.lens (.tm 39)),
    .put 41 (.cm .lt (.tm 37) (.tm 40))]) (.cond 41 .skip (.exit 2))) (.seq (.block 3 (.seq (.ops [.put 44 (.fa 0 (.tm 3)),
    .put 45 (.ld false [.ac] (.tm 44)),
    .put 46 (.mov (.tm 9)),
    .put 47 (.ia 3 (.tm 45) (.tm 46)),
    .put 48 (.fa 0 (.tm 47)),
    .put 49 (.ld false [.int .i64] (.tm 48)),
    .put 50 (.mov (.tm 2)),
    .put 51 (.cm .eq (.tm 49) (.tm 50)),
    .put 52 (.mov (.tm 51)),
    .gput 53 52 true (.fa 1 (.tm 3)),
    .gput 54 52 true (.ld false [.ac] (.tm 53)),
    .gput 55 52 true (.mov (.tm 9)),
    .gput 56 52 true (.ia 1 (.tm 54) (.tm 55)),
    .gput 57 52 true (.ld false [.ac] (.tm 56)),
    .gput 58 52 true (.mov (.tm 1)),
    .gput 59 52 true (.call 83 [(.tm 57), (.tm 58)]),
    .put 60 (.pick (.tm 52) (.tm 59) (.ct (.one (.bool false))))]) fetterlockref6_walk.c50)) (.ops [.put 42 (.mov (.tm 9)),
    .put 43 (.ar .add (.tm 42) (.ct (.one (.int .i64 1)))),
    .put 9 (.mov (.tm 43))])))
def fetterlockref6_walk.c23 : RC := (.seq (.seq (.ops [.put 22 (.mov (.tm 1)),
    .put 23 (.mov (.tm 8)),
    .put 24 (.slc 1 (.tm 22) none (some (.tm 23))),
    .put 25 (.mov (.tm 1)),
    .put 26 (.mov (.tm 8)),
    .put 27 (.slc 1 (.tm 25) (some (.tm 26)) none),
    .put 28 (.call 83 [(.tm 24), (.tm 27)])]) (.cond 28 .skip (.exit 0))) (.block 1 (.seq (.ops [.put 29 (.mov (.tm 1)),
    .put 30 (.mov (.tm 8)),
    .put 31 (.slc 1 (.tm 29) none (some (.tm 30))),
    .put 1 (.mov (.tm 31))]) (.seq (.ops [.put 32 (.mov (.tm 1)),
    .put 33 (.lens (.tm 32)),
    .put 34 (.ar .quo (.tm 33) (.ct (.one (.int .i64 2)))),
    .put 8 (.mov (.tm 34))]) (.ops [.put 35 (.mov (.tm 2)),
    .put 36 (.ar .add (.tm 35) (.ct (.one (.int .i64 1)))),
    .put 2 (.mov (.tm 36))])))))
def fetterlockref6_walk.c : RC := (.seq (.ops [.put 3 (.box 71 (.tm 0)),
    .put 6 (.new 71 [(.sl none 0 0 (some 0)), (.sl none 0 0 (some 0)), (.bool false)]),
    .put 7 (.mov (.ct (.one (.int .i64 0))))]) (.seq (.seq (.ops [.put 12 (.mov (.tm 1)),
    .put 13 (.call 82 [(.tm 12)])]) (.cond 13 (.seq (.seq (.ops [.put 14 (.mov (.tm 1)),
    .put 15 (.ia 1 (.tm 14) (.ct (.one (.int .i64 0)))),
    .put 16 (.ld false [.bool] (.tm 15))]) (.cond 16 (.seq (.ops [.put 17 (.ld true [.ac, .ac, .bool] (.tm 3)),
    .run (.st 3 (.tm 6) (.tm 17)),
    .put 7 (.mov (.ct (.one (.int .i64 (-2)))))]) .ret) .skip)) (.seq (.ops [.put 18 (.ld true [.ac, .ac, .bool] (.tm 3)),
    .run (.st 3 (.tm 6) (.tm 18)),
    .put 7 (.mov (.ct (.one (.int .i64 (-1)))))]) .ret)) .skip)) (.seq (.ops [.put 19 (.mov (.tm 1)),
    .put 20 (.lens (.tm 19)),
    .put 21 (.ar .quo (.tm 20) (.ct (.one (.int .i64 2)))),
    .put 8 (.mov (.tm 21))]) (.seq (.block 0 (.loop fetterlockref6_walk.c23)) (.seq (.seq (.ops [.put 9 (.mov (.ct (.one (.int .i64 0))))]) (.block 2 (.loop fetterlockref6_walk.c40))) (.seq (.ops [.put 10 (.mov (.ct (.one (.int .i64 0))))]) (.seq (.ops [.put 11 (.mov (.ct (.one (.int .i64 0))))]) (.seq (.ops [.put 64 (.ld true [.ac, .ac, .bool] (.tm 3)),
    .put 65 (.mov (.tm 1)),
    .put 66 (.mov (.tm 8)),
    .put 67 (.slc 1 (.tm 65) none (some (.tm 66))),
    .put 68 (.mov (.tm 2)),
    .put 69 (.ar .add (.tm 68) (.ct (.one (.int .i64 1)))),
    .put 70 (.call 48 [(.tm 64), (.tm 67), (.tm 69)]),
    .put 63 (.mov (.tm 70)),
    .put 71 (.ex (.tm 63) 0),
    .put 72 (.ex (.tm 63) 1),
    .run (.st 3 (.tm 3) (.tm 71)),
    .put 10 (.mov (.tm 72))]) (.seq (.ops [.put 74 (.ld true [.ac, .ac, .bool] (.tm 3)),
    .put 75 (.mov (.tm 1)),
    .put 76 (.mov (.tm 8)),
    .put 77 (.slc 1 (.tm 75) (some (.tm 76)) none),
    .put 78 (.mov (.tm 2)),
    .put 79 (.ar .add (.tm 78) (.ct (.one (.int .i64 1)))),
    .put 80 (.call 48 [(.tm 74), (.tm 77), (.tm 79)]),
    .put 73 (.mov (.tm 80)),
    .put 81 (.ex (.tm 73) 0),
    .put 82 (.ex (.tm 73) 1),
    .run (.st 3 (.tm 3) (.tm 81)),
    .put 11 (.mov (.tm 82))]) (.seq (.seq (.ops [.put 83 (.fa 2 (.tm 3)),
    .put 84 (.ld false [.bool] (.tm 83)),
    .put 85 (.mov (.tm 84)),
    .gput 86 85 false (.fa 0 (.tm 3)),
    .gput 87 85 false (.ld false [.ac] (.tm 86)),
    .gput 88 85 false (.lens (.tm 87)),
    .gput 89 85 false (.cm .eq (.tm 88) (.ct (.one (.int .i64 2000)))),
    .put 90 (.pick (.tm 85) (.ct (.one (.bool true))) (.tm 89))]) fetterlockref6_walk.c67) (.seq (.ops [.put 93 (.fa 0 (.tm 3)),
    .put 94 (.ld false [.ac] (.tm 93)),
    .put 95 (.mov (.tm 2)),
    .put 96 (.mov (.tm 10)),
    .put 97 (.mov (.tm 11)),
    .put 98 (.bld [(.int .i64 0), (.int .i64 0), (.int .i64 0)] [(0, 1, (.tm 95)), (1, 1, (.tm 96)), (2, 1, (.tm 97))]),
    .put 99 (.blds 77 3 1 [(.int .i64 0), (.int .i64 0), (.int .i64 0)] [(0, 3, (.tm 98))]),
    .put 100 (.app 77 3 24 (.tm 94) (.tm 99)),
    .put 101 (.fa 0 (.tm 3)),
    .run (.st 1 (.tm 101) (.tm 100))]) (.seq (.ops [.put 102 (.fa 1 (.tm 3)),
    .put 103 (.ld false [.ac] (.tm 102)),
    .put 104 (.mov (.tm 1)),
    .put 105 (.blds 33 1 1 [(.sl none 0 0 (some 0))] [(0, 1, (.tm 104))]),
    .put 106 (.app 33 1 24 (.tm 103) (.tm 105)),
    .put 107 (.fa 1 (.tm 3)),
    .run (.st 1 (.tm 107) (.tm 106))]) (.seq (.held [.put 108 (.ld true [.ac, .ac, .bool] (.tm 3)),
    .put 109 (.fa 0 (.tm 3)),
    .put 110 (.ld false [.ac] (.tm 109)),
    .put 111 (.lens (.tm 110)),
    .put 112 (.ar .sub (.tm 111) (.ct (.one (.int .i64 1)))),
    .run (.st 3 (.tm 6) (.tm 108)),
    .put 7 (.mov (.tm 112))] [(2, 5), (3, 5)]) .ret)))))))))))))
abbrev fetterlockref6_walk.KQ (Q : AHeap → AC → AC → Bool → Int → Prop) : AV → AHeap → Prop := fun v H => ∃ xs : Tup (flat [(true, [.ac, .ac, .bool]), (false, [.int .i64])]), v = joinR (splitP [(true, [.ac, .ac, .bool]), (false, [.int .i64])] (cellsOf (flat [(true, [.ac, .ac, .bool]), (false, [.int .i64])]) xs)) ∧ app (flat [(true, [.ac, .ac, .bool]), (false, [.int .i64])]) (Q H) xs
abbrev fetterlockref6_walk.K (Q : AHeap → AC → AC → Bool → Int → Prop) : Ex → Env → AHeap → Prop := kTop [.cell 6 true [.ac, .ac, .bool], .tm 7] (fetterlockref6_walk.KQ Q)
abbrev fetterlockref6_walk.k21 (Q : AHeap → AC → AC → Bool → Int → Prop) : Ex → Env → AHeap → Prop := kSeq (fun t H => wpC Try.prog (.seq (.seq (.ops [.put 9 (.mov (.ct (.one (.int .i64 0))))]) (.block 2 (.loop fetterlockref6_walk.c40))) (.seq (.ops [.put 10 (.mov (.ct (.one (.int .i64 0))))]) (.seq (.ops [.put 11 (.mov (.ct (.one (.int .i64 0))))]) (.seq (.ops [.put 64 (.ld true [.ac, .ac, .bool] (.tm 3)),
    .put 65 (.mov (.tm 1)),
    .put 66 (.mov (.tm 8)),
    .put 67 (.slc 1 (.tm 65) none (some (.tm 66))),
    .put 68 (.mov (.tm 2)),
    .put 69 (.ar .add (.tm 68) (.ct (.one (.int .i64 1)))),
    .put 70 (.call 48 [(.tm 64), (.tm 67), (.tm 69)]),
    .put 63 (.mov (.tm 70)),
    .put 71 (.ex (.tm 63) 0),
    .put 72 (.ex (.tm 63) 1),
    .run (.st 3 (.tm 3) (.tm 71)),
    .put 10 (.mov (.tm 72))]) (.seq (.ops [.put 74 (.ld true [.ac, .ac, .bool] (.tm 3)),
    .put 75 (.mov (.tm 1)),
    .put 76 (.mov (.tm 8)),
    .put 77 (.slc 1 (.tm 75) (some (.tm 76)) none),
    .put 78 (.mov (.tm 2)),
    .put 79 (.ar .add (.tm 78) (.ct (.one (.int .i64 1)))),
    .put 80 (.call 48 [(.tm 74), (.tm 77), (.tm 79)]),
    .put 73 (.mov (.tm 80)),
    .put 81 (.ex (.tm 73) 0),
    .put 82 (.ex (.tm 73) 1),
    .run (.st 3 (.tm 3) (.tm 81)),
    .put 11 (.mov (.tm 82))]) (.seq (.seq (.ops [.put 83 (.fa 2 (.tm 3)),
    .put 84 (.ld false [.bool] (.tm 83)),
    .put 85 (.mov (.tm 84)),
    .gput 86 85 false (.fa 0 (.tm 3)),
    .gput 87 85 false (.ld false [.ac] (.tm 86)),
    .gput 88 85 false (.lens (.tm 87)),
    .gput 89 85 false (.cm .eq (.tm 88) (.ct (.one (.int .i64 2000)))),
    .put 90 (.pick (.tm 85) (.ct (.one (.bool true))) (.tm 89))]) fetterlockref6_walk.c67) (.seq (.ops [.put 93 (.fa 0 (.tm 3)),
    .put 94 (.ld false [.ac] (.tm 93)),
    .put 95 (.mov (.tm 2)),
    .put 96 (.mov (.tm 10)),
    .put 97 (.mov (.tm 11)),
    .put 98 (.bld [(.int .i64 0), (.int .i64 0), (.int .i64 0)] [(0, 1, (.tm 95)), (1, 1, (.tm 96)), (2, 1, (.tm 97))]),
    .put 99 (.blds 77 3 1 [(.int .i64 0), (.int .i64 0), (.int .i64 0)] [(0, 3, (.tm 98))]),
    .put 100 (.app 77 3 24 (.tm 94) (.tm 99)),
    .put 101 (.fa 0 (.tm 3)),
    .run (.st 1 (.tm 101) (.tm 100))]) (.seq (.ops [.put 102 (.fa 1 (.tm 3)),
    .put 103 (.ld false [.ac] (.tm 102)),
    .put 104 (.mov (.tm 1)),
    .put 105 (.blds 33 1 1 [(.sl none 0 0 (some 0))] [(0, 1, (.tm 104))]),
    .put 106 (.app 33 1 24 (.tm 103) (.tm 105)),
    .put 107 (.fa 1 (.tm 3)),
    .run (.st 1 (.tm 107) (.tm 106))]) (.seq (.held [.put 108 (.ld true [.ac, .ac, .bool] (.tm 3)),
    .put 109 (.fa 0 (.tm 3)),
    .put 110 (.ld false [.ac] (.tm 109)),
    .put 111 (.lens (.tm 110)),
    .put 112 (.ar .sub (.tm 111) (.ct (.one (.int .i64 1)))),
    .run (.st 3 (.tm 6) (.tm 108)),
    .put 7 (.mov (.tm 112))] [(2, 5), (3, 5)]) .ret))))))))) t H (fetterlockref6_walk.K Q)) (fetterlockref6_walk.K Q)
abbrev fetterlockref6_walk.k36 (Q : AHeap → AC → AC → Bool → Int → Prop) : Ex → Env → AHeap → Prop := kSeq (fun t H => wpC Try.prog (.seq (.ops [.put 10 (.mov (.ct (.one (.int .i64 0))))]) (.seq (.ops [.put 11 (.mov (.ct (.one (.int .i64 0))))]) (.seq (.ops [.put 64 (.ld true [.ac, .ac, .bool] (.tm 3)),
    .put 65 (.mov (.tm 1)),
    .put 66 (.mov (.tm 8)),
    .put 67 (.slc 1 (.tm 65) none (some (.tm 66))),
    .put 68 (.mov (.tm 2)),
    .put 69 (.ar .add (.tm 68) (.ct (.one (.int .i64 1)))),
    .put 70 (.call 48 [(.tm 64), (.tm 67), (.tm 69)]),
    .put 63 (.mov (.tm 70)),
    .put 71 (.ex (.tm 63) 0),
    .put 72 (.ex (.tm 63) 1),
    .run (.st 3 (.tm 3) (.tm 71)),
    .put 10 (.mov (.tm 72))]) (.seq (.ops [.put 74 (.ld true [.ac, .ac, .bool] (.tm 3)),
    .put 75 (.mov (.tm 1)),
    .put 76 (.mov (.tm 8)),
    .put 77 (.slc 1 (.tm 75) (some (.tm 76)) none),
    .put 78 (.mov (.tm 2)),
    .put 79 (.ar .add (.tm 78) (.ct (.one (.int .i64 1)))),
    .put 80 (.call 48 [(.tm 74), (.tm 77), (.tm 79)]),
    .put 73 (.mov (.tm 80)),
    .put 81 (.ex (.tm 73) 0),
    .put 82 (.ex (.tm 73) 1),
    .run (.st 3 (.tm 3) (.tm 81)),
    .put 11 (.mov (.tm 82))]) (.seq (.seq (.ops [.put 83 (.fa 2 (.tm 3)),
    .put 84 (.ld false [.bool] (.tm 83)),
    .put 85 (.mov (.tm 84)),
    .gput 86 85 false (.fa 0 (.tm 3)),
    .gput 87 85 false (.ld false [.ac] (.tm 86)),
    .gput 88 85 false (.lens (.tm 87)),
    .gput 89 85 false (.cm .eq (.tm 88) (.ct (.one (.int .i64 2000)))),
    .put 90 (.pick (.tm 85) (.ct (.one (.bool true))) (.tm 89))]) fetterlockref6_walk.c67) (.seq (.ops [.put 93 (.fa 0 (.tm 3)),
    .put 94 (.ld false [.ac] (.tm 93)),
    .put 95 (.mov (.tm 2)),
    .put 96 (.mov (.tm 10)),
    .put 97 (.mov (.tm 11)),
    .put 98 (.bld [(.int .i64 0), (.int .i64 0), (.int .i64 0)] [(0, 1, (.tm 95)), (1, 1, (.tm 96)), (2, 1, (.tm 97))]),
    .put 99 (.blds 77 3 1 [(.int .i64 0), (.int .i64 0), (.int .i64 0)] [(0, 3, (.tm 98))]),
    .put 100 (.app 77 3 24 (.tm 94) (.tm 99)),
    .put 101 (.fa 0 (.tm 3)),
    .run (.st 1 (.tm 101) (.tm 100))]) (.seq (.ops [.put 102 (.fa 1 (.tm 3)),
    .put 103 (.ld false [.ac] (.tm 102)),
    .put 104 (.mov (.tm 1)),
    .put 105 (.blds 33 1 1 [(.sl none 0 0 (some 0))] [(0, 1, (.tm 104))]),
    .put 106 (.app 33 1 24 (.tm 103) (.tm 105)),
    .put 107 (.fa 1 (.tm 3)),
    .run (.st 1 (.tm 107) (.tm 106))]) (.seq (.held [.put 108 (.ld true [.ac, .ac, .bool] (.tm 3)),
    .put 109 (.fa 0 (.tm 3)),
    .put 110 (.ld false [.ac] (.tm 109)),
    .put 111 (.lens (.tm 110)),
    .put 112 (.ar .sub (.tm 111) (.ct (.one (.int .i64 1)))),
    .run (.st 3 (.tm 6) (.tm 108)),
    .put 7 (.mov (.tm 112))] [(2, 5), (3, 5)]) .ret)))))))) t H (fetterlockref6_walk.K Q)) (fetterlockref6_walk.K Q)
abbrev fetterlockref6_walk.k47 (Q : AHeap → AC → AC → Bool → Int → Prop) (X39 : Env → AHeap → Prop) : Ex → Env → AHeap → Prop := kSeq (fun t H => wpC Try.prog (.ops [.put 42 (.mov (.tm 9)),
    .put 43 (.ar .add (.tm 42) (.ct (.one (.int .i64 1)))),
    .put 9 (.mov (.tm 43))]) t H (kSeq X39 (kBlk 2 (fetterlockref6_walk.k36 Q)))) (kSeq X39 (kBlk 2 (fetterlockref6_walk.k36 Q)))
abbrev fetterlockref6_walk.k65 (Q : AHeap → AC → AC → Bool → Int → Prop) : Ex → Env → AHeap → Prop := kSeq (fun t H => wpC Try.prog (.seq (.ops [.put 93 (.fa 0 (.tm 3)),
    .put 94 (.ld false [.ac] (.tm 93)),
    .put 95 (.mov (.tm 2)),
    .put 96 (.mov (.tm 10)),
    .put 97 (.mov (.tm 11)),
    .put 98 (.bld [(.int .i64 0), (.int .i64 0), (.int .i64 0)] [(0, 1, (.tm 95)), (1, 1, (.tm 96)), (2, 1, (.tm 97))]),
    .put 99 (.blds 77 3 1 [(.int .i64 0), (.int .i64 0), (.int .i64 0)] [(0, 3, (.tm 98))]),
    .put 100 (.app 77 3 24 (.tm 94) (.tm 99)),
    .put 101 (.fa 0 (.tm 3)),
    .run (.st 1 (.tm 101) (.tm 100))]) (.seq (.ops [.put 102 (.fa 1 (.tm 3)),
    .put 103 (.ld false [.ac] (.tm 102)),
    .put 104 (.mov (.tm 1)),
    .put 105 (.blds 33 1 1 [(.sl none 0 0 (some 0))] [(0, 1, (.tm 104))]),
    .put 106 (.app 33 1 24 (.tm 103) (.tm 105)),
    .put 107 (.fa 1 (.tm 3)),
    .run (.st 1 (.tm 107) (.tm 106))]) (.seq (.held [.put 108 (.ld true [.ac, .ac, .bool] (.tm 3)),
    .put 109 (.fa 0 (.tm 3)),
    .put 110 (.ld false [.ac] (.tm 109)),
    .put 111 (.lens (.tm 110)),
    .put 112 (.ar .sub (.tm 111) (.ct (.one (.int .i64 1)))),
    .run (.st 3 (.tm 6) (.tm 108)),
    .put 7 (.mov (.tm 112))] [(2, 5), (3, 5)]) .ret))) t H (fetterlockref6_walk.K Q)) (fetterlockref6_walk.K Q)
def fetterlockref6_walk.R39 (s : Tup [.ac, .int .i64, .ac, .ac, .int .i64, .int .i64]) (t : Env) : Prop := t 1 = (.one (s.1)) ∧ t 2 = (.one (.int .i64 (s.2.1))) ∧ t 3 = (.one (s.2.2.1)) ∧ t 6 = (.one (s.2.2.2.1)) ∧ t 8 = (.one (.int .i64 (s.2.2.2.2.1))) ∧ t 9 = (.one (.int .i64 (s.2.2.2.2.2.1))) ∧ True
def fetterlockref6_walk.R22 (s : Tup [.ac, .int .i64, .ac, .ac, .int .i64]) (t : Env) : Prop := t 1 = (.one (s.1)) ∧ t 2 = (.one (.int .i64 (s.2.1))) ∧ t 3 = (.one (s.2.2.1)) ∧ t 6 = (.one (s.2.2.2.1)) ∧ t 8 = (.one (.int .i64 (s.2.2.2.2.1))) ∧ True
def fetterlockref6_walk.p67 (Q : AHeap → AC → AC → Bool → Int → Prop) (x1 : AC) (x2 : Int) (x3 : AC) (x6 : AC) (x10 : Int) (x11 : Int) (x90 : Bool) (H : AHeap) : Prop :=
  CondB x90
    (FA 2 x3 fun q_1 =>
    Sto H q_1 [(.bool true)] fun H_2 =>
    Ld [.ac, .ac, .bool] H_2 x3 fun (v_3 : AC) (v_4 : AC) (v_5 : Bool) =>
    Sto H_2 x6 [v_3, v_4, (.bool v_5)] fun H_6 =>
    Ld [.ac, .ac, .bool] H_6 x6 fun (r0_7 : AC) (r1_8 : AC) (r2_9 : Bool) =>
    Q H_6 r0_7 r1_8 r2_9 0)
    (FA 0 x3 fun q_10 =>
    Ld [.ac] H q_10 fun (v_11 : AC) =>
    NewS 77 3 1 [(.int .i64 x2), (.int .i64 x10), (.int .i64 x11)] H fun p_12 H_13 =>
    App 77 3 24 v_11 p_12 H_13 fun s_14 H_15 =>
    FA 0 x3 fun q_16 =>
    Sto H_15 q_16 [s_14] fun H_17 =>
    FA 1 x3 fun q_18 =>
    Ld [.ac] H_17 q_18 fun (v_19 : AC) =>
    NewS 33 1 1 [x1] H_17 fun p_20 H_21 =>
    App 33 1 24 v_19 p_20 H_21 fun s_22 H_23 =>
    FA 1 x3 fun q_24 =>
    Sto H_23 q_24 [s_22] fun H_25 =>
    Ld [.ac, .ac, .bool] H_25 x3 fun (v_26 : AC) (v_27 : AC) (v_28 : Bool) =>
    FA 0 x3 fun q_29 =>
    Ld [.ac] H_25 q_29 fun (v_30 : AC) =>
    LenS v_30 fun n_31 =>
    Sto H_25 x6 [v_26, v_27, (.bool v_28)] fun H_32 =>
    Same1 H_25 H_32 q_29 1 ∧
    Ld [.ac, .ac, .bool] H_32 x6 fun (r0_33 : AC) (r1_34 : AC) (r2_35 : Bool) =>
    Q H_32 r0_33 r1_34 r2_35 (IntKind.wrap .i64 (n_31 - 1)))
def fetterlockref6_walk.p50 (Q : AHeap → AC → AC → Bool → Int → Prop) (Y39 : Tup [.ac, .int .i64, .ac, .ac, .int .i64, .int .i64] → AHeap → Prop) (x1 : AC) (x2 : Int) (x3 : AC) (x6 : AC) (x8 : Int) (x9 : Int) (x60 : Bool) (H : AHeap) : Prop :=
  CondB x60
    (Ld [.ac, .ac, .bool] H x3 fun (v_1 : AC) (v_2 : AC) (v_3 : Bool) =>
    Sto H x6 [v_1, v_2, (.bool v_3)] fun H_4 =>
    Ld [.ac, .ac, .bool] H_4 x6 fun (r0_5 : AC) (r1_6 : AC) (r2_7 : Bool) =>
    Q H_4 r0_5 r1_6 r2_7 x9)
    (Y39 (x1, (x2 : Int), x3, x6, (x8 : Int), ((IntKind.wrap .i64 (x9 + 1)) : Int), ()) H)
def fetterlockref6_walk.b39 (Q : AHeap → AC → AC → Bool → Int → Prop) (Y39 : Tup [.ac, .int .i64, .ac, .ac, .int .i64, .int .i64] → AHeap → Prop) (x1 : AC) (x2 : Int) (x3 : AC) (x6 : AC) (x8 : Int) (x9 : Int) (H : AHeap) : Prop :=
  FA 0 x3 fun q_1 =>
  Ld [.ac] H q_1 fun (v_2 : AC) =>
  LenS v_2 fun n_3 =>
  CondB (decide (x9 < n_3))
    (FA 0 x3 fun q_4 =>
    Ld [.ac] H q_4 fun (v_5 : AC) =>
    IA 3 v_5 x9 fun q_6 =>
    FA 0 q_6 fun q_7 =>
    Ld [.int .i64] H q_7 fun (v_8 : Int) =>
    CondB (v_8 == x2)
      (FA 1 x3 fun q_9 =>
      Ld [.ac] H q_9 fun (v_10 : AC) =>
      IA 1 v_10 x9 fun q_11 =>
      Ld [.ac] H q_11 fun (v_12 : AC) =>
      Fn.fetterlockref6_alike v_12 x1 H fun H_13 (v_14 : Bool) =>
      fetterlockref6_walk.p50 Q Y39 x1 x2 x3 x6 x8 x9 v_14 H_13)
      (fetterlockref6_walk.p50 Q Y39 x1 x2 x3 x6 x8 x9 false H))
    (Ld [.ac, .ac, .bool] H x3 fun (v_15 : AC) (v_16 : AC) (v_17 : Bool) =>
    Slc 1 x1 none (some x8) fun s_18 =>
    Fn.fetterlockref6_walk v_15 v_16 v_17 s_18 (IntKind.wrap .i64 (x2 + 1)) H fun H_19 (v_20 : AC) (v_21 : AC) (v_22 : Bool) (v_23 : Int) =>
    Sto H_19 x3 [v_20, v_21, (.bool v_22)] fun H_24 =>
    Ld [.ac, .ac, .bool] H_24 x3 fun (v_25 : AC) (v_26 : AC) (v_27 : Bool) =>
    Slc 1 x1 (some x8) none fun s_28 =>
    Fn.fetterlockref6_walk v_25 v_26 v_27 s_28 (IntKind.wrap .i64 (x2 + 1)) H_24 fun H_29 (v_30 : AC) (v_31 : AC) (v_32 : Bool) (v_33 : Int) =>
    Sto H_29 x3 [v_30, v_31, (.bool v_32)] fun H_34 =>
    FA 2 x3 fun q_35 =>
    Ld [.bool] H_34 q_35 fun (v_36 : Bool) =>
    CondB v_36
      (fetterlockref6_walk.p67 Q x1 x2 x3 x6 v_23 v_33 true H_34)
      (FA 0 x3 fun q_37 =>
      Ld [.ac] H_34 q_37 fun (v_38 : AC) =>
      LenS v_38 fun n_39 =>
      fetterlockref6_walk.p67 Q x1 x2 x3 x6 v_23 v_33 (n_39 == 2000) H_34))
def fetterlockref6_walk.l39 (Q : AHeap → AC → AC → Bool → Int → Prop) (x1 : AC) (x2 : Int) (x3 : AC) (x6 : AC) (x8 : Int) (x9 : Int) (H : AHeap) : Prop := LoopT (Tup [.ac, .int .i64, .ac, .ac, .int .i64, .int .i64]) (fun Y s H => fetterlockref6_walk.b39 Q Y (s.1) (s.2.1) (s.2.2.1) (s.2.2.2.1) (s.2.2.2.2.1) (s.2.2.2.2.2.1) H) (x1, x2, x3, x6, x8, x9, ()) H
def fetterlockref6_walk.b22 (Q : AHeap → AC → AC → Bool → Int → Prop) (Y22 : Tup [.ac, .int .i64, .ac, .ac, .int .i64] → AHeap → Prop) (x1 : AC) (x2 : Int) (x3 : AC) (x6 : AC) (x8 : Int) (H : AHeap) : Prop :=
  Slc 1 x1 none (some x8) fun s_1 =>
  Slc 1 x1 (some x8) none fun s_2 =>
  Fn.fetterlockref6_alike s_1 s_2 H fun H_3 (v_4 : Bool) =>
  CondB v_4
    (Slc 1 x1 none (some x8) fun s_5 =>
    LenS s_5 fun n_6 =>
    NZ 2 <|
    Y22 (s_5, ((IntKind.wrap .i64 (x2 + 1)) : Int), x3, x6, ((IntKind.wrap .i64 (Int.tdiv n_6 2)) : Int), ()) H_3)
    (fetterlockref6_walk.l39 Q x1 x2 x3 x6 x8 0 H_3)
def fetterlockref6_walk.l22 (Q : AHeap → AC → AC → Bool → Int → Prop) (x1 : AC) (x2 : Int) (x3 : AC) (x6 : AC) (x8 : Int) (H : AHeap) : Prop := LoopT (Tup [.ac, .int .i64, .ac, .ac, .int .i64]) (fun Y s H => fetterlockref6_walk.b22 Q Y (s.1) (s.2.1) (s.2.2.1) (s.2.2.2.1) (s.2.2.2.2.1) H) (x1, x2, x3, x6, x8, ()) H
def fetterlockref6_walk.W (a0_0 : AC) (a0_1 : AC) (a0_2 : Bool) (a1 : AC) (a2 : Int) (H : AHeap) (Q : AHeap → AC → AC → Bool → Int → Prop) : Prop :=
  New 71 [a0_0, a0_1, (.bool a0_2)] H fun p_1 H_2 =>
  New 71 [(.sl none 0 0 (some 0)), (.sl none 0 0 (some 0)), (.bool false)] H_2 fun p_3 H_4 =>
  Fn.fetterlockref6_uniform a1 H_4 fun H_5 (v_6 : Bool) =>
  CondB v_6
    (IA 1 a1 0 fun q_7 =>
    Ld [.bool] H_5 q_7 fun (v_8 : Bool) =>
    CondB v_8
      (Ld [.ac, .ac, .bool] H_5 p_1 fun (v_9 : AC) (v_10 : AC) (v_11 : Bool) =>
      Sto H_5 p_3 [v_9, v_10, (.bool v_11)] fun H_12 =>
      Ld [.ac, .ac, .bool] H_12 p_3 fun (r0_13 : AC) (r1_14 : AC) (r2_15 : Bool) =>
      Q H_12 r0_13 r1_14 r2_15 (-2))
      (Ld [.ac, .ac, .bool] H_5 p_1 fun (v_16 : AC) (v_17 : AC) (v_18 : Bool) =>
      Sto H_5 p_3 [v_16, v_17, (.bool v_18)] fun H_19 =>
      Ld [.ac, .ac, .bool] H_19 p_3 fun (r0_20 : AC) (r1_21 : AC) (r2_22 : Bool) =>
      Q H_19 r0_20 r1_21 r2_22 (-1)))
    (LenS a1 fun n_23 =>
    NZ 2 <|
    fetterlockref6_walk.l22 Q a1 a2 p_1 p_3 (IntKind.wrap .i64 (Int.tdiv n_23 2)) H_5)
theorem fetterlockref6_walk.p67_okE (Q : AHeap → AC → AC → Bool → Int → Prop) {x1 : AC} {x2 : Int} {x3 : AC} {x6 : AC} {x10 : Int} {x11 : Int} {x90 : Bool} {H : AHeap} (j : Env) : fetterlockref6_walk.p67 Q x1 x2 x3 x6 x10 x11 x90 H → wpC Try.prog fetterlockref6_walk.c67 (upd (upd (upd (upd (upd (upd (upd j 1 (.one x1)) 2 (.one (.int .i64 x2))) 3 (.one x3)) 6 (.one x6)) 10 (.one (.int .i64 x10))) 11 (.one (.int .i64 x11))) 90 (.one (.bool x90))) H (fetterlockref6_walk.k65 Q) := c_if rfl (c_seq (c_ops (s_cons (w_put (o_fa rfl (fun q_1 => s_cons (w_run (o_st rfl rfl rfl (fun H_2 => s_nil (k_seq (c_seq (c_ops (s_cons (w_put (o_ld3 rfl (fun (v_3 : AC) (v_4 : AC) (v_5 : Bool) => s_cons (w_run (o_st rfl rfl rfl (fun H_6 => s_cons (w_put (o_mov rfl (s_nil (k_seq (c_ret (k_seqR (k_topR (r_cell3 rfl (fun (r0_7 : AC) (r1_8 : AC) (r2_9 : Bool) => r_one rfl (r_nil (fun h => ⟨(r0_7, r1_8, (r2_9 : Bool), (0 : Int), ()), rfl, h⟩)))))))))))))))))))))))))))))) (c_skip (k_seq (c_seq (c_ops (s_cons (w_put (o_fa rfl (fun q_10 => s_cons (w_put (o_ld1 rfl (fun (v_11 : AC) => s_cons (w_put (o_mov rfl (s_cons (w_put (o_mov rfl (s_cons (w_put (o_mov rfl (s_cons (w_put (o_bld rfl (s_cons (w_put (o_blds rfl (fun p_12 H_13 => s_cons (w_put (o_app rfl rfl (fun s_14 H_15 => s_cons (w_put (o_fa rfl (fun q_16 => s_cons (w_run (o_st rfl rfl rfl (fun H_17 => s_nil (k_seq (c_seq (c_ops (s_cons (w_put (o_fa rfl (fun q_18 => s_cons (w_put (o_ld1 rfl (fun (v_19 : AC) => s_cons (w_put (o_mov rfl (s_cons (w_put (o_blds rfl (fun p_20 H_21 => s_cons (w_put (o_app rfl rfl (fun s_22 H_23 => s_cons (w_put (o_fa rfl (fun q_24 => s_cons (w_run (o_st rfl rfl rfl (fun H_25 => s_nil (k_seq (c_seq (c_held (t_cons (w_put (o_ld3 rfl (fun (v_26 : AC) (v_27 : AC) (v_28 : Bool) => t_cons (w_put (o_fa rfl (fun q_29 => t_cons (w_put (o_ld1 rfl (fun (v_30 : AC) => t_cons (w_put (o_lens rfl (fun n_31 => t_cons (w_put (o_sub rfl rfl (t_cons (w_run (o_st rfl rfl rfl (fun H_32 => t_cons (w_put (o_mov rfl (t_nil (p_one rfl rfl rfl rfl rfl rfl rfl rfl (p_skip trivial (p_nil (k_seq (c_ret (k_topR (r_cell3 rfl (fun (r0_33 : AC) (r1_34 : AC) (r2_35 : Bool) => r_one rfl (r_nil (fun h => ⟨(r0_33, r1_34, (r2_35 : Bool), ((IntKind.wrap .i64 (n_31 - 1)) : Int), ()), rfl, h⟩)))))))))))))))))))))))))))))))))))))))))))))))))))))))))))))))))))))))))))))))))))))))))))))))
theorem fetterlockref6_walk.p67_ok (Q : AHeap → AC → AC → Bool → Int → Prop) {x1 : AC} {x2 : Int} {x3 : AC} {x6 : AC} {x10 : Int} {x11 : Int} {x90 : Bool} {H : AHeap} {t : Env} (h1 : t 1 = (.one x1)) (h2 : t 2 = (.one (.int .i64 x2))) (h3 : t 3 = (.one x3)) (h6 : t 6 = (.one x6)) (h10 : t 10 = (.one (.int .i64 x10))) (h11 : t 11 = (.one (.int .i64 x11))) (h90 : t 90 = (.one (.bool x90))) (h : fetterlockref6_walk.p67 Q x1 x2 x3 x6 x10 x11 x90 H) : wpC Try.prog fetterlockref6_walk.c67 t H (fetterlockref6_walk.k65 Q) := by
  have g := fetterlockref6_walk.p67_okE Q t h
  rw [upd_self h1] at g
  rw [upd_self h2] at g
  rw [upd_self h3] at g
  rw [upd_self h6] at g
  rw [upd_self h10] at g
  rw [upd_self h11] at g
  rw [upd_self h90] at g
  exact g
theorem fetterlockref6_walk.p50_okE (Q : AHeap → AC → AC → Bool → Int → Prop) (Y39 : Tup [.ac, .int .i64, .ac, .ac, .int .i64, .int .i64] → AHeap → Prop) (X39 : Env → AHeap → Prop) (hX39 : ∀ s t H, fetterlockref6_walk.R39 s t → Y39 s H → X39 t H) {x1 : AC} {x2 : Int} {x3 : AC} {x6 : AC} {x8 : Int} {x9 : Int} {x60 : Bool} {H : AHeap} (j : Env) : fetterlockref6_walk.p50 Q Y39 x1 x2 x3 x6 x8 x9 x60 H → wpC Try.prog fetterlockref6_walk.c50 (upd (upd (upd (upd (upd (upd (upd j 1 (.one x1)) 2 (.one (.int .i64 x2))) 3 (.one x3)) 6 (.one x6)) 8 (.one (.int .i64 x8))) 9 (.one (.int .i64 x9))) 60 (.one (.bool x60))) H (kBlk 3 (fetterlockref6_walk.k47 Q X39)) := c_if rfl (c_seq (c_ops (s_cons (w_put (o_ld3 rfl (fun (v_1 : AC) (v_2 : AC) (v_3 : Bool) => s_cons (w_put (o_mov rfl (s_cons (w_run (o_st rfl rfl rfl (fun H_4 => s_cons (w_put (o_mov rfl (s_nil (k_seq (c_ret (k_blkR (k_seqR (k_seqR (k_blkR (k_seqR (k_topR (r_cell3 rfl (fun (r0_5 : AC) (r1_6 : AC) (r2_7 : Bool) => r_one rfl (r_nil (fun h => ⟨(r0_5, r1_6, (r2_7 : Bool), (x9 : Int), ()), rfl, h⟩))))))))))))))))))))))))))) (c_skip (k_blk (k_seq (c_ops (s_cons (w_put (o_mov rfl (s_cons (w_put (o_add rfl rfl (s_cons (w_put (o_mov rfl (s_nil (k_seq (hX39 _ _ _ ⟨rfl, rfl, rfl, rfl, rfl, rfl, trivial⟩))))))))))))))))
theorem fetterlockref6_walk.p50_ok (Q : AHeap → AC → AC → Bool → Int → Prop) (Y39 : Tup [.ac, .int .i64, .ac, .ac, .int .i64, .int .i64] → AHeap → Prop) (X39 : Env → AHeap → Prop) (hX39 : ∀ s t H, fetterlockref6_walk.R39 s t → Y39 s H → X39 t H) {x1 : AC} {x2 : Int} {x3 : AC} {x6 : AC} {x8 : Int} {x9 : Int} {x60 : Bool} {H : AHeap} {t : Env} (h1 : t 1 = (.one x1)) (h2 : t 2 = (.one (.int .i64 x2))) (h3 : t 3 = (.one x3)) (h6 : t 6 = (.one x6)) (h8 : t 8 = (.one (.int .i64 x8))) (h9 : t 9 = (.one (.int .i64 x9))) (h60 : t 60 = (.one (.bool x60))) (h : fetterlockref6_walk.p50 Q Y39 x1 x2 x3 x6 x8 x9 x60 H) : wpC Try.prog fetterlockref6_walk.c50 t H (kBlk 3 (fetterlockref6_walk.k47 Q X39)) := by
  have g := fetterlockref6_walk.p50_okE Q Y39 X39 hX39 t h
  rw [upd_self h1] at g
  rw [upd_self h2] at g
  rw [upd_self h3] at g
  rw [upd_self h6] at g
  rw [upd_self h8] at g
  rw [upd_self h9] at g
  rw [upd_self h60] at g
  exact g
theorem fetterlockref6_walk.b39_ok (Q : AHeap → AC → AC → Bool → Int → Prop) (Y39 : Tup [.ac, .int .i64, .ac, .ac, .int .i64, .int .i64] → AHeap → Prop) (X39 : Env → AHeap → Prop) (hX39 : ∀ s t H, fetterlockref6_walk.R39 s t → Y39 s H → X39 t H) {x1 : AC} {x2 : Int} {x3 : AC} {x6 : AC} {x8 : Int} {x9 : Int} {H : AHeap} (j : Env) : fetterlockref6_walk.b39 Q Y39 x1 x2 x3 x6 x8 x9 H → wpC Try.prog fetterlockref6_walk.c40 (upd (upd (upd (upd (upd (upd j 1 (.one x1)) 2 (.one (.int .i64 x2))) 3 (.one x3)) 6 (.one x6)) 8 (.one (.int .i64 x8))) 9 (.one (.int .i64 x9))) H (kSeq X39 (kBlk 2 (fetterlockref6_walk.k36 Q))) := c_seq (c_seq (c_ops (s_cons (w_put (o_mov rfl (s_cons (w_put (o_fa rfl (fun q_1 => s_cons (w_put (o_ld1 rfl (fun (v_2 : AC) => s_cons (w_put (o_lens rfl (fun n_3 => s_cons (w_put (o_lt rfl rfl (s_nil (k_seq (c_if rfl (c_skip (k_seq (c_seq (c_blk (c_seq (c_ops (s_cons (w_put (o_fa rfl (fun q_4 => s_cons (w_put (o_ld1 rfl (fun (v_5 : AC) => s_cons (w_put (o_mov rfl (s_cons (w_put (o_ia rfl rfl (fun q_6 => s_cons (w_put (o_fa rfl (fun q_7 => s_cons (w_put (o_ld1 rfl (fun (v_8 : Int) => s_cons (w_put (o_mov rfl (s_cons (w_put (o_eq rfl rfl (s_cons (w_put (o_mov rfl (s_cons (w_gputT rfl (o_fa rfl (fun q_9 => s_cons (w_gputY rfl (o_ld1 rfl (fun (v_10 : AC) => s_cons (w_gputY rfl (o_mov rfl (s_cons (w_gputY rfl (o_ia rfl rfl (fun q_11 => s_cons (w_gputY rfl (o_ld1 rfl (fun (v_12 : AC) => s_cons (w_gputY rfl (o_mov rfl (s_cons (w_gputY rfl (o_call rfl (cv_1 (fun H_13 (v_14 : Bool) => s_cons (w_put (o_pickT rfl rfl (s_nil (k_seq (fetterlockref6_walk.p50_ok Q Y39 X39 hX39 rfl rfl rfl rfl rfl rfl rfl)))))))))))))))))))))))))) (s_cons (w_gputN rfl (s_cons (w_gputN rfl (s_cons (w_gputN rfl (s_cons (w_gputN rfl (s_cons (w_gputN rfl (s_cons (w_gputN rfl (s_cons (w_put (o_pickF rfl rfl (s_nil (k_seq (fetterlockref6_walk.p50_ok Q Y39 X39 hX39 rfl rfl rfl rfl rfl rfl rfl))))))))))))))))))))))))))))))))))))))))))))))))))))) (c_exit (k_seqE (k_seqE (k_blkH (k_seq (c_seq (c_ops (s_cons (w_put (o_mov rfl (s_nil (k_seq (c_seq (c_ops (s_cons (w_put (o_mov rfl (s_nil (k_seq (c_seq (c_ops (s_cons (w_put (o_ld3 rfl (fun (v_15 : AC) (v_16 : AC) (v_17 : Bool) => s_cons (w_put (o_mov rfl (s_cons (w_put (o_mov rfl (s_cons (w_put (o_slc rfl rfl rfl (fun s_18 => s_cons (w_put (o_mov rfl (s_cons (w_put (o_add rfl rfl (s_cons (w_put (o_call rfl (cv_a3_o1 (fun H_19 (v_20 : AC) (v_21 : AC) (v_22 : Bool) (v_23 : Int) => s_cons (w_put (o_mov rfl (s_cons (w_put (o_ex rfl rfl rfl (s_cons (w_put (o_ex rfl rfl rfl (s_cons (w_run (o_st rfl rfl rfl (fun H_24 => s_cons (w_put (o_mov rfl (s_nil (k_seq (c_seq (c_ops (s_cons (w_put (o_ld3 rfl (fun (v_25 : AC) (v_26 : AC) (v_27 : Bool) => s_cons (w_put (o_mov rfl (s_cons (w_put (o_mov rfl (s_cons (w_put (o_slc rfl rfl rfl (fun s_28 => s_cons (w_put (o_mov rfl (s_cons (w_put (o_add rfl rfl (s_cons (w_put (o_call rfl (cv_a3_o1 (fun H_29 (v_30 : AC) (v_31 : AC) (v_32 : Bool) (v_33 : Int) => s_cons (w_put (o_mov rfl (s_cons (w_put (o_ex rfl rfl rfl (s_cons (w_put (o_ex rfl rfl rfl (s_cons (w_run (o_st rfl rfl rfl (fun H_34 => s_cons (w_put (o_mov rfl (s_nil (k_seq (c_seq (c_seq (c_ops (s_cons (w_put (o_fa rfl (fun q_35 => s_cons (w_put (o_ld1 rfl (fun (v_36 : Bool) => s_cons (w_put (o_mov rfl (s_cons (w_gputF rfl (s_cons (w_gputN rfl (s_cons (w_gputN rfl (s_cons (w_gputN rfl (s_cons (w_put (o_pickT rfl rfl (s_nil (k_seq (fetterlockref6_walk.p67_ok Q rfl rfl rfl rfl rfl rfl rfl)))))))))))) (o_fa rfl (fun q_37 => s_cons (w_gputY rfl (o_ld1 rfl (fun (v_38 : AC) => s_cons (w_gputY rfl (o_lens rfl (fun n_39 => s_cons (w_gputY rfl (o_eq rfl rfl (s_cons (w_put (o_pickF rfl rfl (s_nil (k_seq (fetterlockref6_walk.p67_ok Q rfl rfl rfl rfl rfl rfl rfl)))))))))))))))))))))))))))))))))))))))))))))))))))))))))))))))))))))))))))))))))))))))))))))))))))))))))))))))))))))))))))))))))))))))))))))))))))))))
theorem fetterlockref6_walk.l39_ok (Q : AHeap → AC → AC → Bool → Int → Prop) {x1 : AC} {x2 : Int} {x3 : AC} {x6 : AC} {x8 : Int} {x9 : Int} {H : AHeap} {t : Env} (h1 : t 1 = (.one x1)) (h2 : t 2 = (.one (.int .i64 x2))) (h3 : t 3 = (.one x3)) (h6 : t 6 = (.one x6)) (h8 : t 8 = (.one (.int .i64 x8))) (h9 : t 9 = (.one (.int .i64 x9))) : fetterlockref6_walk.l39 Q x1 x2 x3 x6 x8 x9 H → wpC Try.prog (.loop fetterlockref6_walk.c40) t H (kBlk 2 (fetterlockref6_walk.k36 Q)) :=
  m_loop fetterlockref6_walk.R39 ⟨h1, h2, h3, h6, h8, h9, trivial⟩ fun X Y hX s t H hR hB => by
    have g := fetterlockref6_walk.b39_ok Q Y X hX t hB
    rw [upd_self hR.1] at g
    rw [upd_self hR.2.1] at g
    rw [upd_self hR.2.2.1] at g
    rw [upd_self hR.2.2.2.1] at g
    rw [upd_self hR.2.2.2.2.1] at g
    rw [upd_self hR.2.2.2.2.2.1] at g
    exact g
theorem fetterlockref6_walk.b22_ok (Q : AHeap → AC → AC → Bool → Int → Prop) (Y22 : Tup [.ac, .int .i64, .ac, .ac, .int .i64] → AHeap → Prop) (X22 : Env → AHeap → Prop) (hX22 : ∀ s t H, fetterlockref6_walk.R22 s t → Y22 s H → X22 t H) {x1 : AC} {x2 : Int} {x3 : AC} {x6 : AC} {x8 : Int} {H : AHeap} (j : Env) : fetterlockref6_walk.b22 Q Y22 x1 x2 x3 x6 x8 H → wpC Try.prog fetterlockref6_walk.c23 (upd (upd (upd (upd (upd j 1 (.one x1)) 2 (.one (.int .i64 x2))) 3 (.one x3)) 6 (.one x6)) 8 (.one (.int .i64 x8))) H (kSeq X22 (kBlk 0 (fetterlockref6_walk.k21 Q))) := c_seq (c_seq (c_ops (s_cons (w_put (o_mov rfl (s_cons (w_put (o_mov rfl (s_cons (w_put (o_slc rfl rfl rfl (fun s_1 => s_cons (w_put (o_mov rfl (s_cons (w_put (o_mov rfl (s_cons (w_put (o_slc rfl rfl rfl (fun s_2 => s_cons (w_put (o_call rfl (cv_1 (fun H_3 (v_4 : Bool) => s_nil (k_seq (c_if rfl (c_skip (k_seq (c_blk (c_seq (c_ops (s_cons (w_put (o_mov rfl (s_cons (w_put (o_mov rfl (s_cons (w_put (o_slc rfl rfl rfl (fun s_5 => s_cons (w_put (o_mov rfl (s_nil (k_seq (c_seq (c_ops (s_cons (w_put (o_mov rfl (s_cons (w_put (o_lens rfl (fun n_6 => s_cons (w_put (o_quo rfl rfl (s_cons (w_put (o_mov rfl (s_nil (k_seq (c_ops (s_cons (w_put (o_mov rfl (s_cons (w_put (o_add rfl rfl (s_cons (w_put (o_mov rfl (s_nil (k_blk (k_seq (hX22 _ _ _ ⟨rfl, rfl, rfl, rfl, rfl, trivial⟩))))))))))))))))))))))))))))))))))))))))))))))))) (c_exit (k_seqE (k_seqE (k_blkH (k_seq (c_seq (c_seq (c_ops (s_cons (w_put (o_mov rfl (s_nil (k_seq (c_blk (fetterlockref6_walk.l39_ok Q rfl rfl rfl rfl rfl rfl))))))))))))))))))))))))))))))))))))))))))
theorem fetterlockref6_walk.l22_ok (Q : AHeap → AC → AC → Bool → Int → Prop) {x1 : AC} {x2 : Int} {x3 : AC} {x6 : AC} {x8 : Int} {H : AHeap} {t : Env} (h1 : t 1 = (.one x1)) (h2 : t 2 = (.one (.int .i64 x2))) (h3 : t 3 = (.one x3)) (h6 : t 6 = (.one x6)) (h8 : t 8 = (.one (.int .i64 x8))) : fetterlockref6_walk.l22 Q x1 x2 x3 x6 x8 H → wpC Try.prog (.loop fetterlockref6_walk.c23) t H (kBlk 0 (fetterlockref6_walk.k21 Q)) :=
  m_loop fetterlockref6_walk.R22 ⟨h1, h2, h3, h6, h8, trivial⟩ fun X Y hX s t H hR hB => by
    have g := fetterlockref6_walk.b22_ok Q Y X hX t hB
    rw [upd_self hR.1] at g
    rw [upd_self hR.2.1] at g
    rw [upd_self hR.2.2.1] at g
    rw [upd_self hR.2.2.2.1] at g
    rw [upd_self hR.2.2.2.2.1] at g
    exact g
theorem fetterlockref6_walk.ok {a0_0 : AC} {a0_1 : AC} {a0_2 : Bool} {a1 : AC} {a2 : Int} {H : AHeap} (Q : AHeap → AC → AC → Bool → Int → Prop) : fetterlockref6_walk.W a0_0 a0_1 a0_2 a1 a2 H Q → wpF Try.prog fetterlockref6_walk.c [.cell 6 true [.ac, .ac, .bool], .tm 7] (envOf [(.agg [a0_0, a0_1, (.bool a0_2)]), (.one a1), (.one (.int .i64 a2))]) H (fetterlockref6_walk.KQ Q) := c_seq (c_ops (s_cons (w_put (o_box rfl (fun p_1 H_2 => s_cons (w_put (o_new (fun p_3 H_4 => s_cons (w_put (o_mov rfl (s_nil (k_seq (c_seq (c_seq (c_ops (s_cons (w_put (o_mov rfl (s_cons (w_put (o_call rfl (cv_1 (fun H_5 (v_6 : Bool) => s_nil (k_seq (c_if rfl (c_seq (c_seq (c_ops (s_cons (w_put (o_mov rfl (s_cons (w_put (o_ia rfl rfl (fun q_7 => s_cons (w_put (o_ld1 rfl (fun (v_8 : Bool) => s_nil (k_seq (c_if rfl (c_seq (c_ops (s_cons (w_put (o_ld3 rfl (fun (v_9 : AC) (v_10 : AC) (v_11 : Bool) => s_cons (w_run (o_st rfl rfl rfl (fun H_12 => s_cons (w_put (o_mov rfl (s_nil (k_seq (c_ret (k_seqR (k_seqR (k_topR (r_cell3 rfl (fun (r0_13 : AC) (r1_14 : AC) (r2_15 : Bool) => r_one rfl (r_nil (fun h => ⟨(r0_13, r1_14, (r2_15 : Bool), ((-2) : Int), ()), rfl, h⟩))))))))))))))))))))) (c_skip (k_seq (c_seq (c_ops (s_cons (w_put (o_ld3 rfl (fun (v_16 : AC) (v_17 : AC) (v_18 : Bool) => s_cons (w_run (o_st rfl rfl rfl (fun H_19 => s_cons (w_put (o_mov rfl (s_nil (k_seq (c_ret (k_seqR (k_topR (r_cell3 rfl (fun (r0_20 : AC) (r1_21 : AC) (r2_22 : Bool) => r_one rfl (r_nil (fun h => ⟨(r0_20, r1_21, (r2_22 : Bool), ((-1) : Int), ()), rfl, h⟩))))))))))))))))))))))))))))))))))))) (c_skip (k_seq (c_seq (c_ops (s_cons (w_put (o_mov rfl (s_cons (w_put (o_lens rfl (fun n_23 => s_cons (w_put (o_quo rfl rfl (s_cons (w_put (o_mov rfl (s_nil (k_seq (c_seq (c_blk (fetterlockref6_walk.l22_ok Q rfl rfl rfl rfl rfl))))))))))))))))))))))))))))))))))))))))))))))
theorem fetterlockref6_walk.slimOk : slimOk [(6, []), (17, []), (18, []), (24, [(2, 5), (3, 5)])] (Try.f48.body.getD .skip) = true := by kernel_rfl
theorem fetterlockref6_walk.resC : resC Try.prog aggs Try.f48.ntmps (slim [(6, []), (17, []), (18, []), (24, [(2, 5), (3, 5)])] (Try.f48.body.getD .skip)) = some fetterlockref6_walk.c := by kernel_rfl
theorem fetterlockref6_walk.resR : resR Try.prog Try.f48.results.toList = some [.cell 6 true [.ac, .ac, .bool], .tm 7] := by kernel_rfl
theorem fetterlockref6_walk.bodyEq : Try.f48.body = some (Try.f48.body.getD .skip) := by kernel_rfl
theorem fetterlockref6_walk.run {a0_0 : AC} {a0_1 : AC} {a0_2 : Bool} {a1 : AC} {a2 : Int} {H : AHeap} {Q : AHeap → AC → AC → Bool → Int → Prop} (h : fetterlockref6_walk.W a0_0 a0_1 a0_2 a1 a2 H Q) : Fn.fetterlockref6_walk a0_0 a0_1 a0_2 a1 a2 H Q := by
  unfold Fn.fetterlockref6_walk RunT
  exact run_of aggs_ok [(6, []), (17, []), (18, []), (24, [(2, 5), (3, 5)])] Try.func48 fetterlockref6_walk.bodyEq fetterlockref6_walk.slimOk fetterlockref6_walk.resC fetterlockref6_walk.resR (Nat.le_of_ble_eq_true (by kernel_rfl)) (fetterlockref6_walk.ok Q h)

def fetterlockref6_True.c55 : RC := (.seq (.seq (.ops [.put 68 (.mov (.tm 5)),
    .put 69 (.fa 2 (.tm 2)),
    .put 70 (.ld false [.ac] (.tm 69)),
    .put 71 (.lens (.tm 70)),
    .put 72 (.cm .lt (.tm 68) (.tm 71))]) (.cond 72 .skip (.exit 0))) (.seq (.block 1 (.seq (.held [.put 75 (.fa 2 (.tm 2)),
    .put 76 (.ld false [.ac] (.tm 75)),
    .put 77 (.mov (.tm 5)),
    .put 78 (.ia 3 (.tm 76) (.tm 77)),
    .put 79 (.ld true [.int .i64, .int .i64, .ac] (.tm 78)),
    .put 80 (.mov (.tm 1)),
    .put 81 (.call 49 [(.tm 79), (.tm 80)]),
    .put 82 (.fa 0 (.tm 2)),
    .put 83 (.ld false [.int .i64] (.tm 82)),
    .put 84 (.cm .eq (.tm 83) (.ct (.one (.int .i64 4)))),
    .put 85 (.eqb true (.tm 81) (.tm 84))] [(8, 6)]) (.cond 85 (.seq (.ops [.put 86 (.fa 0 (.tm 2)),
    .put 87 (.ld false [.int .i64] (.tm 86)),
    .put 88 (.cm .eq (.tm 87) (.ct (.one (.int .i64 5)))),
    .put 4 (.mov (.tm 88))]) .ret) .skip))) (.ops [.put 73 (.mov (.tm 5)),
    .put 74 (.ar .add (.tm 73) (.ct (.one (.int .i64 1)))),
    .put 5 (.mov (.tm 74))])))
def fetterlockref6_True.c : RC := (.seq (.ops [.put 2 (.box 24 (.tm 0)),
    .put 4 (.mov (.ct (.one (.bool false))))]) (.seq (.seq (.ops [.put 6 (.fa 0 (.tm 2)),
    .put 7 (.ld false [.int .i64] (.tm 6)),
    .put 8 (.cm .eq (.tm 7) (.ct (.one (.int .i64 1))))]) (.cond 8 (.seq (.ops [.put 9 (.mov (.tm 1)),
    .put 10 (.fa 1 (.tm 2)),
    .put 11 (.ld false [.int .i64] (.tm 10)),
    .put 12 (.sh false (.tm 9) (.tm 11)),
    .put 13 (.ar .and (.tm 12) (.ct (.one (.int .i64 1)))),
    .put 14 (.cm .eq (.tm 13) (.ct (.one (.int .i64 1)))),
    .put 4 (.mov (.tm 14))]) .ret) .skip)) (.seq (.seq (.ops [.put 15 (.fa 0 (.tm 2)),
    .put 16 (.ld false [.int .i64] (.tm 15)),
    .put 17 (.cm .eq (.tm 16) (.ct (.one (.int .i64 2))))]) (.cond 17 (.seq (.ops [.put 18 (.fa 1 (.tm 2)),
    .put 19 (.ld false [.int .i64] (.tm 18)),
    .put 20 (.cm .eq (.tm 19) (.ct (.one (.int .i64 1)))),
    .put 4 (.mov (.tm 20))]) .ret) .skip)) (.seq (.seq (.ops [.put 21 (.fa 0 (.tm 2)),
    .put 22 (.ld false [.int .i64] (.tm 21)),
    .put 23 (.cm .eq (.tm 22) (.ct (.one (.int .i64 3))))]) (.cond 23 (.seq (.ops [.put 24 (.fa 2 (.tm 2)),
    .put 25 (.ld false [.ac] (.tm 24)),
    .put 26 (.ia 3 (.tm 25) (.ct (.one (.int .i64 0)))),
    .put 27 (.ld true [.int .i64, .int .i64, .ac] (.tm 26)),
    .put 28 (.mov (.tm 1)),
    .put 29 (.call 49 [(.tm 27), (.tm 28)]),
    .put 30 (.not (.tm 29)),
    .put 4 (.mov (.tm 30))]) .ret) .skip)) (.seq (.seq (.ops [.put 31 (.fa 0 (.tm 2)),
    .put 32 (.ld false [.int .i64] (.tm 31)),
    .put 33 (.cm .eq (.tm 32) (.ct (.one (.int .i64 6))))]) (.cond 33 (.seq (.held [.put 34 (.fa 2 (.tm 2)),
    .put 35 (.ld false [.ac] (.tm 34)),
    .put 36 (.ia 3 (.tm 35) (.ct (.one (.int .i64 0)))),
    .put 37 (.ld true [.int .i64, .int .i64, .ac] (.tm 36)),
    .put 38 (.mov (.tm 1)),
    .put 39 (.call 49 [(.tm 37), (.tm 38)]),
    .put 40 (.fa 2 (.tm 2)),
    .put 41 (.ld false [.ac] (.tm 40)),
    .put 42 (.ia 3 (.tm 41) (.ct (.one (.int .i64 1)))),
    .put 43 (.ld true [.int .i64, .int .i64, .ac] (.tm 42)),
    .put 44 (.mov (.tm 1)),
    .put 45 (.call 49 [(.tm 43), (.tm 44)]),
    .put 46 (.eqb true (.tm 39) (.tm 45)),
    .put 4 (.mov (.tm 46))] [(7, 5), (9, 5)]) .ret) .skip)) (.seq (.seq (.ops [.put 47 (.fa 0 (.tm 2)),
    .put 48 (.ld false [.int .i64] (.tm 47)),
    .put 49 (.cm .eq (.tm 48) (.ct (.one (.int .i64 7))))]) (.cond 49 (.seq (.seq (.ops [.put 50 (.fa 2 (.tm 2)),
    .put 51 (.ld false [.ac] (.tm 50)),
    .put 52 (.ia 3 (.tm 51) (.ct (.one (.int .i64 0)))),
    .put 53 (.ld true [.int .i64, .int .i64, .ac] (.tm 52)),
    .put 54 (.mov (.tm 1)),
    .put 55 (.call 49 [(.tm 53), (.tm 54)])]) (.cond 55 (.seq (.ops [.put 56 (.fa 2 (.tm 2)),
    .put 57 (.ld false [.ac] (.tm 56)),
    .put 58 (.ia 3 (.tm 57) (.ct (.one (.int .i64 1)))),
    .put 59 (.ld true [.int .i64, .int .i64, .ac] (.tm 58)),
    .put 60 (.mov (.tm 1)),
    .put 61 (.call 49 [(.tm 59), (.tm 60)]),
    .put 4 (.mov (.tm 61))]) .ret) .skip)) (.seq (.ops [.put 62 (.fa 2 (.tm 2)),
    .put 63 (.ld false [.ac] (.tm 62)),
    .put 64 (.ia 3 (.tm 63) (.ct (.one (.int .i64 2)))),
    .put 65 (.ld true [.int .i64, .int .i64, .ac] (.tm 64)),
    .put 66 (.mov (.tm 1)),
    .put 67 (.call 49 [(.tm 65), (.tm 66)]),
    .put 4 (.mov (.tm 67))]) .ret)) .skip)) (.seq (.seq (.ops [.put 5 (.mov (.ct (.one (.int .i64 0))))]) (.block 0 (.loop fetterlockref6_True.c55))) (.seq (.ops [.put 89 (.fa 0 (.tm 2)),
    .put 90 (.ld false [.int .i64] (.tm 89)),
    .put 91 (.cm .eq (.tm 90) (.ct (.one (.int .i64 4)))),
    .put 4 (.mov (.tm 91))]) .ret))))))))
abbrev fetterlockref6_True.KQ (Q : AHeap → Bool → Prop) : AV → AHeap → Prop := fun v H => ∃ xs : Tup (flat [(false, [.bool])]), v = joinR (splitP [(false, [.bool])] (cellsOf (flat [(false, [.bool])]) xs)) ∧ app (flat [(false, [.bool])]) (Q H) xs
abbrev fetterlockref6_True.K (Q : AHeap → Bool → Prop) : Ex → Env → AHeap → Prop := kTop [.tm 4] (fetterlockref6_True.KQ Q)
abbrev fetterlockref6_True.k51 (Q : AHeap → Bool → Prop) : Ex → Env → AHeap → Prop := kSeq (fun t H => wpC Try.prog (.seq (.ops [.put 89 (.fa 0 (.tm 2)),
    .put 90 (.ld false [.int .i64] (.tm 89)),
    .put 91 (.cm .eq (.tm 90) (.ct (.one (.int .i64 4)))),
    .put 4 (.mov (.tm 91))]) .ret) t H (fetterlockref6_True.K Q)) (fetterlockref6_True.K Q)
def fetterlockref6_True.R54 (s : Tup [.int .i64, .ac, .int .i64]) (t : Env) : Prop := t 1 = (.one (.int .i64 (s.1))) ∧ t 2 = (.one (s.2.1)) ∧ t 5 = (.one (.int .i64 (s.2.2.1))) ∧ True
def fetterlockref6_True.b54 (Q : AHeap → Bool → Prop) (Y54 : Tup [.int .i64, .ac, .int .i64] → AHeap → Prop) (x1 : Int) (x2 : AC) (x5 : Int) (H : AHeap) : Prop :=
  FA 2 x2 fun q_1 =>
  Ld [.ac] H q_1 fun (v_2 : AC) =>
  LenS v_2 fun n_3 =>
  CondB (decide (x5 < n_3))
    (FA 2 x2 fun q_4 =>
    Ld [.ac] H q_4 fun (v_5 : AC) =>
    IA 3 v_5 x5 fun q_6 =>
    Ld [.int .i64, .int .i64, .ac] H q_6 fun (v_7 : Int) (v_8 : Int) (v_9 : AC) =>
    Fn.fetterlockref6_True v_7 v_8 v_9 x1 H fun H_10 (v_11 : Bool) =>
    FA 0 x2 fun q_12 =>
    Ld [.int .i64] H_10 q_12 fun (v_13 : Int) =>
    Same2 H_10 H q_12 1 ∧
    CondB (!(v_11 == (v_13 == 4)))
      (FA 0 x2 fun q_14 =>
      Ld [.int .i64] H_10 q_14 fun (v_15 : Int) =>
      Q H_10 (v_15 == 5))
      (Y54 ((x1 : Int), x2, ((IntKind.wrap .i64 (x5 + 1)) : Int), ()) H_10))
    (FA 0 x2 fun q_16 =>
    Ld [.int .i64] H q_16 fun (v_17 : Int) =>
    Q H (v_17 == 4))
def fetterlockref6_True.l54 (Q : AHeap → Bool → Prop) (x1 : Int) (x2 : AC) (x5 : Int) (H : AHeap) : Prop := LoopT (Tup [.int .i64, .ac, .int .i64]) (fun Y s H => fetterlockref6_True.b54 Q Y (s.1) (s.2.1) (s.2.2.1) H) (x1, x2, x5, ()) H
def fetterlockref6_True.W (a0_0 : Int) (a0_1 : Int) (a0_2 : AC) (a1 : Int) (H : AHeap) (Q : AHeap → Bool → Prop) : Prop :=
  New 24 [(.int .i64 a0_0), (.int .i64 a0_1), a0_2] H fun p_1 H_2 =>
  FA 0 p_1 fun q_3 =>
  Ld [.int .i64] H_2 q_3 fun (v_4 : Int) =>
  CondB (v_4 == 1)
    (FA 1 p_1 fun q_5 =>
    Ld [.int .i64] H_2 q_5 fun (v_6 : Int) =>
    GE0 v_6 <|
    Q H_2 ((arith .and .i64 (shr .i64 a1 v_6) 1) == 1))
    (FA 0 p_1 fun q_7 =>
    Ld [.int .i64] H_2 q_7 fun (v_8 : Int) =>
    CondB (v_8 == 2)
      (FA 1 p_1 fun q_9 =>
      Ld [.int .i64] H_2 q_9 fun (v_10 : Int) =>
      Q H_2 (v_10 == 1))
      (FA 0 p_1 fun q_11 =>
      Ld [.int .i64] H_2 q_11 fun (v_12 : Int) =>
      CondB (v_12 == 3)
        (FA 2 p_1 fun q_13 =>
        Ld [.ac] H_2 q_13 fun (v_14 : AC) =>
        IA 3 v_14 0 fun q_15 =>
        Ld [.int .i64, .int .i64, .ac] H_2 q_15 fun (v_16 : Int) (v_17 : Int) (v_18 : AC) =>
        Fn.fetterlockref6_True v_16 v_17 v_18 a1 H_2 fun H_19 (v_20 : Bool) =>
        Q H_19 (!v_20))
        (FA 0 p_1 fun q_21 =>
        Ld [.int .i64] H_2 q_21 fun (v_22 : Int) =>
        CondB (v_22 == 6)
          (FA 2 p_1 fun q_23 =>
          Ld [.ac] H_2 q_23 fun (v_24 : AC) =>
          IA 3 v_24 0 fun q_25 =>
          Ld [.int .i64, .int .i64, .ac] H_2 q_25 fun (v_26 : Int) (v_27 : Int) (v_28 : AC) =>
          Fn.fetterlockref6_True v_26 v_27 v_28 a1 H_2 fun H_29 (v_30 : Bool) =>
          FA 2 p_1 fun q_31 =>
          Ld [.ac] H_29 q_31 fun (v_32 : AC) =>
          IA 3 v_32 1 fun q_33 =>
          Ld [.int .i64, .int .i64, .ac] H_29 q_33 fun (v_34 : Int) (v_35 : Int) (v_36 : AC) =>
          Fn.fetterlockref6_True v_34 v_35 v_36 a1 H_29 fun H_37 (v_38 : Bool) =>
          Same2 H_29 H_2 q_31 1 ∧
          Same2 H_29 H_2 q_33 3 ∧
          Q H_37 (!(v_30 == v_38)))
          (FA 0 p_1 fun q_39 =>
          Ld [.int .i64] H_2 q_39 fun (v_40 : Int) =>
          CondB (v_40 == 7)
            (FA 2 p_1 fun q_41 =>
            Ld [.ac] H_2 q_41 fun (v_42 : AC) =>
            IA 3 v_42 0 fun q_43 =>
            Ld [.int .i64, .int .i64, .ac] H_2 q_43 fun (v_44 : Int) (v_45 : Int) (v_46 : AC) =>
            Fn.fetterlockref6_True v_44 v_45 v_46 a1 H_2 fun H_47 (v_48 : Bool) =>
            CondB v_48
              (FA 2 p_1 fun q_49 =>
              Ld [.ac] H_47 q_49 fun (v_50 : AC) =>
              IA 3 v_50 1 fun q_51 =>
              Ld [.int .i64, .int .i64, .ac] H_47 q_51 fun (v_52 : Int) (v_53 : Int) (v_54 : AC) =>
              Fn.fetterlockref6_True v_52 v_53 v_54 a1 H_47 fun H_55 (v_56 : Bool) =>
              Q H_55 v_56)
              (FA 2 p_1 fun q_57 =>
              Ld [.ac] H_47 q_57 fun (v_58 : AC) =>
              IA 3 v_58 2 fun q_59 =>
              Ld [.int .i64, .int .i64, .ac] H_47 q_59 fun (v_60 : Int) (v_61 : Int) (v_62 : AC) =>
              Fn.fetterlockref6_True v_60 v_61 v_62 a1 H_47 fun H_63 (v_64 : Bool) =>
              Q H_63 v_64))
            (fetterlockref6_True.l54 Q a1 p_1 0 H_2)))))
theorem fetterlockref6_True.b54_ok (Q : AHeap → Bool → Prop) (Y54 : Tup [.int .i64, .ac, .int .i64] → AHeap → Prop) (X54 : Env → AHeap → Prop) (hX54 : ∀ s t H, fetterlockref6_True.R54 s t → Y54 s H → X54 t H) {x1 : Int} {x2 : AC} {x5 : Int} {H : AHeap} (j : Env) : fetterlockref6_True.b54 Q Y54 x1 x2 x5 H → wpC Try.prog fetterlockref6_True.c55 (upd (upd (upd j 1 (.one (.int .i64 x1))) 2 (.one x2)) 5 (.one (.int .i64 x5))) H (kSeq X54 (kBlk 0 (fetterlockref6_True.k51 Q))) := c_seq (c_seq (c_ops (s_cons (w_put (o_mov rfl (s_cons (w_put (o_fa rfl (fun q_1 => s_cons (w_put (o_ld1 rfl (fun (v_2 : AC) => s_cons (w_put (o_lens rfl (fun n_3 => s_cons (w_put (o_lt rfl rfl (s_nil (k_seq (c_if rfl (c_skip (k_seq (c_seq (c_blk (c_seq (c_held (t_cons (w_put (o_fa rfl (fun q_4 => t_cons (w_put (o_ld1 rfl (fun (v_5 : AC) => t_cons (w_put (o_mov rfl (t_cons (w_put (o_ia rfl rfl (fun q_6 => t_cons (w_put (o_ld3 rfl (fun (v_7 : Int) (v_8 : Int) (v_9 : AC) => t_cons (w_put (o_mov rfl (t_cons (w_put (o_call rfl (cv_1 (fun H_10 (v_11 : Bool) => t_cons (w_put (o_fa rfl (fun q_12 => t_cons (w_put (o_ld1 rfl (fun (v_13 : Int) => t_cons (w_put (o_eq rfl rfl (t_cons (w_put (o_neb rfl rfl (t_nil (p_two rfl rfl rfl rfl rfl rfl rfl rfl (p_nil (k_seq (c_if rfl (c_seq (c_ops (s_cons (w_put (o_fa rfl (fun q_14 => s_cons (w_put (o_ld1 rfl (fun (v_15 : Int) => s_cons (w_put (o_eq rfl rfl (s_cons (w_put (o_mov rfl (s_nil (k_seq (c_ret (k_blkR (k_seqR (k_seqR (k_blkR (k_seqR (k_topR (r_one rfl (r_nil (fun h => ⟨(((v_15 == 5) : Bool), ()), rfl, h⟩)))))))))))))))))))))))))) (c_skip (k_blk (k_seq (c_ops (s_cons (w_put (o_mov rfl (s_cons (w_put (o_add rfl rfl (s_cons (w_put (o_mov rfl (s_nil (k_seq (hX54 _ _ _ ⟨rfl, rfl, rfl, trivial⟩))))))))))))))))))))))))))))))))))))))))))))))))))))))))))))) (c_exit (k_seqE (k_seqE (k_blkH (k_seq (c_seq (c_ops (s_cons (w_put (o_fa rfl (fun q_16 => s_cons (w_put (o_ld1 rfl (fun (v_17 : Int) => s_cons (w_put (o_eq rfl rfl (s_cons (w_put (o_mov rfl (s_nil (k_seq (c_ret (k_topR (r_one rfl (r_nil (fun h => ⟨(((v_17 == 4) : Bool), ()), rfl, h⟩))))))))))))))))))))))))))))))))))))))))))))))
theorem fetterlockref6_True.l54_ok (Q : AHeap → Bool → Prop) {x1 : Int} {x2 : AC} {x5 : Int} {H : AHeap} {t : Env} (h1 : t 1 = (.one (.int .i64 x1))) (h2 : t 2 = (.one x2)) (h5 : t 5 = (.one (.int .i64 x5))) : fetterlockref6_True.l54 Q x1 x2 x5 H → wpC Try.prog (.loop fetterlockref6_True.c55) t H (kBlk 0 (fetterlockref6_True.k51 Q)) :=
  m_loop fetterlockref6_True.R54 ⟨h1, h2, h5, trivial⟩ fun X Y hX s t H hR hB => by
    have g := fetterlockref6_True.b54_ok Q Y X hX t hB
    rw [upd_self hR.1] at g
    rw [upd_self hR.2.1] at g
    rw [upd_self hR.2.2.1] at g
    exact g
theorem fetterlockref6_True.ok {a0_0 : Int} {a0_1 : Int} {a0_2 : AC} {a1 : Int} {H : AHeap} (Q : AHeap → Bool → Prop) : fetterlockref6_True.W a0_0 a0_1 a0_2 a1 H Q → wpF Try.prog fetterlockref6_True.c [.tm 4] (envOf [(.agg [(.int .i64 a0_0), (.int .i64 a0_1), a0_2]), (.one (.int .i64 a1))]) H (fetterlockref6_True.KQ Q) := c_seq (c_ops (s_cons (w_put (o_box rfl (fun p_1 H_2 => s_cons (w_put (o_mov rfl (s_nil (k_seq (c_seq (c_seq (c_ops (s_cons (w_put (o_fa rfl (fun q_3 => s_cons (w_put (o_ld1 rfl (fun (v_4 : Int) => s_cons (w_put (o_eq rfl rfl (s_nil (k_seq (c_if rfl (c_seq (c_ops (s_cons (w_put (o_mov rfl (s_cons (w_put (o_fa rfl (fun q_5 => s_cons (w_put (o_ld1 rfl (fun (v_6 : Int) => s_cons (w_put (o_shr rfl rfl (s_cons (w_put (o_and rfl rfl (s_cons (w_put (o_eq rfl rfl (s_cons (w_put (o_mov rfl (s_nil (k_seq (c_ret (k_seqR (k_topR (r_one rfl (r_nil (fun h => ⟨((((arith .and .i64 (shr .i64 a1 v_6) 1) == 1) : Bool), ()), rfl, h⟩))))))))))))))))))))))))))))))) (c_skip (k_seq (c_seq (c_seq (c_ops (s_cons (w_put (o_fa rfl (fun q_7 => s_cons (w_put (o_ld1 rfl (fun (v_8 : Int) => s_cons (w_put (o_eq rfl rfl (s_nil (k_seq (c_if rfl (c_seq (c_ops (s_cons (w_put (o_fa rfl (fun q_9 => s_cons (w_put (o_ld1 rfl (fun (v_10 : Int) => s_cons (w_put (o_eq rfl rfl (s_cons (w_put (o_mov rfl (s_nil (k_seq (c_ret (k_seqR (k_topR (r_one rfl (r_nil (fun h => ⟨(((v_10 == 1) : Bool), ()), rfl, h⟩)))))))))))))))))))))) (c_skip (k_seq (c_seq (c_seq (c_ops (s_cons (w_put (o_fa rfl (fun q_11 => s_cons (w_put (o_ld1 rfl (fun (v_12 : Int) => s_cons (w_put (o_eq rfl rfl (s_nil (k_seq (c_if rfl (c_seq (c_ops (s_cons (w_put (o_fa rfl (fun q_13 => s_cons (w_put (o_ld1 rfl (fun (v_14 : AC) => s_cons (w_put (o_ia rfl rfl (fun q_15 => s_cons (w_put (o_ld3 rfl (fun (v_16 : Int) (v_17 : Int) (v_18 : AC) => s_cons (w_put (o_mov rfl (s_cons (w_put (o_call rfl (cv_1 (fun H_19 (v_20 : Bool) => s_cons (w_put (o_not rfl (s_cons (w_put (o_mov rfl (s_nil (k_seq (c_ret (k_seqR (k_topR (r_one rfl (r_nil (fun h => ⟨(((!v_20) : Bool), ()), rfl, h⟩))))))))))))))))))))))))))))))))))) (c_skip (k_seq (c_seq (c_seq (c_ops (s_cons (w_put (o_fa rfl (fun q_21 => s_cons (w_put (o_ld1 rfl (fun (v_22 : Int) => s_cons (w_put (o_eq rfl rfl (s_nil (k_seq (c_if rfl (c_seq (c_held (t_cons (w_put (o_fa rfl (fun q_23 => t_cons (w_put (o_ld1 rfl (fun (v_24 : AC) => t_cons (w_put (o_ia rfl rfl (fun q_25 => t_cons (w_put (o_ld3 rfl (fun (v_26 : Int) (v_27 : Int) (v_28 : AC) => t_cons (w_put (o_mov rfl (t_cons (w_put (o_call rfl (cv_1 (fun H_29 (v_30 : Bool) => t_cons (w_put (o_fa rfl (fun q_31 => t_cons (w_put (o_ld1 rfl (fun (v_32 : AC) => t_cons (w_put (o_ia rfl rfl (fun q_33 => t_cons (w_put (o_ld3 rfl (fun (v_34 : Int) (v_35 : Int) (v_36 : AC) => t_cons (w_put (o_mov rfl (t_cons (w_put (o_call rfl (cv_1 (fun H_37 (v_38 : Bool) => t_cons (w_put (o_neb rfl rfl (t_cons (w_put (o_mov rfl (t_nil (p_two rfl rfl rfl rfl rfl rfl rfl rfl (p_two rfl rfl rfl rfl rfl rfl rfl rfl (p_nil (k_seq (c_ret (k_seqR (k_topR (r_one rfl (r_nil (fun h => ⟨(((!(v_30 == v_38)) : Bool), ()), rfl, h⟩))))))))))))))))))))))))))))))))))))))))))))))))))))))))) (c_skip (k_seq (c_seq (c_seq (c_ops (s_cons (w_put (o_fa rfl (fun q_39 => s_cons (w_put (o_ld1 rfl (fun (v_40 : Int) => s_cons (w_put (o_eq rfl rfl (s_nil (k_seq (c_if rfl (c_seq (c_seq (c_ops (s_cons (w_put (o_fa rfl (fun q_41 => s_cons (w_put (o_ld1 rfl (fun (v_42 : AC) => s_cons (w_put (o_ia rfl rfl (fun q_43 => s_cons (w_put (o_ld3 rfl (fun (v_44 : Int) (v_45 : Int) (v_46 : AC) => s_cons (w_put (o_mov rfl (s_cons (w_put (o_call rfl (cv_1 (fun H_47 (v_48 : Bool) => s_nil (k_seq (c_if rfl (c_seq (c_ops (s_cons (w_put (o_fa rfl (fun q_49 => s_cons (w_put (o_ld1 rfl (fun (v_50 : AC) => s_cons (w_put (o_ia rfl rfl (fun q_51 => s_cons (w_put (o_ld3 rfl (fun (v_52 : Int) (v_53 : Int) (v_54 : AC) => s_cons (w_put (o_mov rfl (s_cons (w_put (o_call rfl (cv_1 (fun H_55 (v_56 : Bool) => s_cons (w_put (o_mov rfl (s_nil (k_seq (c_ret (k_seqR (k_seqR (k_topR (r_one rfl (r_nil (fun h => ⟨((v_56 : Bool), ()), rfl, h⟩))))))))))))))))))))))))))))))))) (c_skip (k_seq (c_seq (c_ops (s_cons (w_put (o_fa rfl (fun q_57 => s_cons (w_put (o_ld1 rfl (fun (v_58 : AC) => s_cons (w_put (o_ia rfl rfl (fun q_59 => s_cons (w_put (o_ld3 rfl (fun (v_60 : Int) (v_61 : Int) (v_62 : AC) => s_cons (w_put (o_mov rfl (s_cons (w_put (o_call rfl (cv_1 (fun H_63 (v_64 : Bool) => s_cons (w_put (o_mov rfl (s_nil (k_seq (c_ret (k_seqR (k_topR (r_one rfl (r_nil (fun h => ⟨((v_64 : Bool), ()), rfl, h⟩))))))))))))))))))))))))))))))))))))))))))))))))))))))))))) (c_skip (k_seq (c_seq (c_seq (c_ops (s_cons (w_put (o_mov rfl (s_nil (k_seq (c_blk (fetterlockref6_True.l54_ok Q rfl rfl rfl))))))))))))))))))))))))))))))))))))))))))))))))))))))))))))))))))))))))))))))))))))))))))))))))))))))))
theorem fetterlockref6_True.slimOk : slimOk [(8, [(7, 5), (9, 5)]), (16, [(8, 6)])] (Try.f49.body.getD .skip) = true := by kernel_rfl
theorem fetterlockref6_True.resC : resC Try.prog aggs Try.f49.ntmps (slim [(8, [(7, 5), (9, 5)]), (16, [(8, 6)])] (Try.f49.body.getD .skip)) = some fetterlockref6_True.c := by kernel_rfl
theorem fetterlockref6_True.resR : resR Try.prog Try.f49.results.toList = some [.tm 4] := by kernel_rfl
theorem fetterlockref6_True.bodyEq : Try.f49.body = some (Try.f49.body.getD .skip) := by kernel_rfl
theorem fetterlockref6_True.run {a0_0 : Int} {a0_1 : Int} {a0_2 : AC} {a1 : Int} {H : AHeap} {Q : AHeap → Bool → Prop} (h : fetterlockref6_True.W a0_0 a0_1 a0_2 a1 H Q) : Fn.fetterlockref6_True a0_0 a0_1 a0_2 a1 H Q := by
  unfold Fn.fetterlockref6_True RunT
  exact run_of aggs_ok [(8, [(7, 5), (9, 5)]), (16, [(8, 6)])] Try.func49 fetterlockref6_True.bodyEq fetterlockref6_True.slimOk fetterlockref6_True.resC fetterlockref6_True.resR (Nat.le_of_ble_eq_true (by kernel_rfl)) (fetterlockref6_True.ok Q h)

def fetterlockref6_turned.c9 : RC := (.seq (.seq (.ops [.put 5 (.mov (.tm 4)),
    .put 6 (.cm .lt (.tm 5) (.ct (.one (.int .i64 16))))]) (.cond 6 .skip (.exit 0))) (.seq (.block 1 (.ops [.put 9 (.mov (.tm 3)),
    .put 10 (.mov (.tm 0)),
    .put 11 (.mov (.tm 4)),
    .put 12 (.sh false (.tm 10) (.tm 11)),
    .put 13 (.ar .and (.tm 12) (.ct (.one (.int .i64 1)))),
    .put 14 (.mov (.tm 4)),
    .put 15 (.ar .sub (.ct (.one (.int .i64 15))) (.tm 14)),
    .put 16 (.sh true (.tm 13) (.tm 15)),
    .put 17 (.ar .or (.tm 9) (.tm 16)),
    .put 3 (.mov (.tm 17))])) (.ops [.put 7 (.mov (.tm 4)),
    .put 8 (.ar .add (.tm 7) (.ct (.one (.int .i64 1)))),
    .put 4 (.mov (.tm 8))])))
def fetterlockref6_turned.c : RC := (.seq (.ops [.put 2 (.mov (.ct (.one (.int .i64 0))))]) (.seq (.ops [.put 3 (.mov (.ct (.one (.int .i64 0))))]) (.seq (.seq (.ops [.put 4 (.mov (.ct (.one (.int .i64 0))))]) (.block 0 (.loop fetterlockref6_turned.c9))) (.seq (.ops [.put 18 (.mov (.tm 3)),
    .put 2 (.mov (.tm 18))]) .ret))))
abbrev fetterlockref6_turned.KQ (Q : AHeap → Int → Prop) : AV → AHeap → Prop := fun v H => ∃ xs : Tup (flat [(false, [.int .i64])]), v = joinR (splitP [(false, [.int .i64])] (cellsOf (flat [(false, [.int .i64])]) xs)) ∧ app (flat [(false, [.int .i64])]) (Q H) xs
abbrev fetterlockref6_turned.K (Q : AHeap → Int → Prop) : Ex → Env → AHeap → Prop := kTop [.tm 2] (fetterlockref6_turned.KQ Q)
abbrev fetterlockref6_turned.k5 (Q : AHeap → Int → Prop) : Ex → Env → AHeap → Prop := kSeq (fun t H => wpC Try.prog (.seq (.ops [.put 18 (.mov (.tm 3)),
    .put 2 (.mov (.tm 18))]) .ret) t H (fetterlockref6_turned.K Q)) (fetterlockref6_turned.K Q)
def fetterlockref6_turned.R8 (s : Tup [.int .i64, .int .i64, .int .i64]) (t : Env) : Prop := t 0 = (.one (.int .i64 (s.1))) ∧ t 3 = (.one (.int .i64 (s.2.1))) ∧ t 4 = (.one (.int .i64 (s.2.2.1))) ∧ True
def fetterlockref6_turned.b8 (Q : AHeap → Int → Prop) (Y8 : Tup [.int .i64, .int .i64, .int .i64] → AHeap → Prop) (x0 : Int) (x3 : Int) (x4 : Int) (H : AHeap) : Prop :=
  CondB (decide (x4 < 16))
    (GE0 x4 <|
    GE0 (IntKind.wrap .i64 (15 - x4)) <|
    Y8 ((x0 : Int), ((arith .or .i64 x3 (shl .i64 (arith .and .i64 (shr .i64 x0 x4) 1) (IntKind.wrap .i64 (15 - x4)))) : Int), ((IntKind.wrap .i64 (x4 + 1)) : Int), ()) H)
    (Q H x3)
def fetterlockref6_turned.l8 (Q : AHeap → Int → Prop) (x0 : Int) (x3 : Int) (x4 : Int) (H : AHeap) : Prop := LoopT (Tup [.int .i64, .int .i64, .int .i64]) (fun Y s H => fetterlockref6_turned.b8 Q Y (s.1) (s.2.1) (s.2.2.1) H) (x0, x3, x4, ()) H
def fetterlockref6_turned.W (a0 : Int) (H : AHeap) (Q : AHeap → Int → Prop) : Prop :=
  fetterlockref6_turned.l8 Q a0 0 0 H
theorem fetterlockref6_turned.b8_ok (Q : AHeap → Int → Prop) (Y8 : Tup [.int .i64, .int .i64, .int .i64] → AHeap → Prop) (X8 : Env → AHeap → Prop) (hX8 : ∀ s t H, fetterlockref6_turned.R8 s t → Y8 s H → X8 t H) {x0 : Int} {x3 : Int} {x4 : Int} {H : AHeap} (j : Env) : fetterlockref6_turned.b8 Q Y8 x0 x3 x4 H → wpC Try.prog fetterlockref6_turned.c9 (upd (upd (upd j 0 (.one (.int .i64 x0))) 3 (.one (.int .i64 x3))) 4 (.one (.int .i64 x4))) H (kSeq X8 (kBlk 0 (fetterlockref6_turned.k5 Q))) := c_seq (c_seq (c_ops (s_cons (w_put (o_mov rfl (s_cons (w_put (o_lt rfl rfl (s_nil (k_seq (c_if rfl (c_skip (k_seq (c_seq (c_blk (c_ops (s_cons (w_put (o_mov rfl (s_cons (w_put (o_mov rfl (s_cons (w_put (o_mov rfl (s_cons (w_put (o_shr rfl rfl (s_cons (w_put (o_and rfl rfl (s_cons (w_put (o_mov rfl (s_cons (w_put (o_sub rfl rfl (s_cons (w_put (o_shl rfl rfl (s_cons (w_put (o_or rfl rfl (s_cons (w_put (o_mov rfl (s_nil (k_blk (k_seq (c_ops (s_cons (w_put (o_mov rfl (s_cons (w_put (o_add rfl rfl (s_cons (w_put (o_mov rfl (s_nil (k_seq (hX8 _ _ _ ⟨rfl, rfl, rfl, trivial⟩))))))))))))))))))))))))))))))))))))))))))))))))))) (c_exit (k_seqE (k_seqE (k_blkH (k_seq (c_seq (c_ops (s_cons (w_put (o_mov rfl (s_cons (w_put (o_mov rfl (s_nil (k_seq (c_ret (k_topR (r_one rfl (r_nil (fun h => ⟨((x3 : Int), ()), rfl, h⟩)))))))))))))))))))))))))))))))
theorem fetterlockref6_turned.l8_ok (Q : AHeap → Int → Prop) {x0 : Int} {x3 : Int} {x4 : Int} {H : AHeap} {t : Env} (h0 : t 0 = (.one (.int .i64 x0))) (h3 : t 3 = (.one (.int .i64 x3))) (h4 : t 4 = (.one (.int .i64 x4))) : fetterlockref6_turned.l8 Q x0 x3 x4 H → wpC Try.prog (.loop fetterlockref6_turned.c9) t H (kBlk 0 (fetterlockref6_turned.k5 Q)) :=
  m_loop fetterlockref6_turned.R8 ⟨h0, h3, h4, trivial⟩ fun X Y hX s t H hR hB => by
    have g := fetterlockref6_turned.b8_ok Q Y X hX t hB
    rw [upd_self hR.1] at g
    rw [upd_self hR.2.1] at g
    rw [upd_self hR.2.2.1] at g
    exact g
theorem fetterlockref6_turned.ok {a0 : Int} {H : AHeap} (Q : AHeap → Int → Prop) : fetterlockref6_turned.W a0 H Q → wpF Try.prog fetterlockref6_turned.c [.tm 2] (envOf [(.one (.int .i64 a0))]) H (fetterlockref6_turned.KQ Q) := c_seq (c_ops (s_cons (w_put (o_mov rfl (s_nil (k_seq (c_seq (c_ops (s_cons (w_put (o_mov rfl (s_nil (k_seq (c_seq (c_seq (c_ops (s_cons (w_put (o_mov rfl (s_nil (k_seq (c_blk (fetterlockref6_turned.l8_ok Q rfl rfl rfl)))))))))))))))))))))))
theorem fetterlockref6_turned.slimOk : slimOk [] (Try.f50.body.getD .skip) = true := by kernel_rfl
theorem fetterlockref6_turned.resC : resC Try.prog aggs Try.f50.ntmps (slim [] (Try.f50.body.getD .skip)) = some fetterlockref6_turned.c := by kernel_rfl
theorem fetterlockref6_turned.resR : resR Try.prog Try.f50.results.toList = some [.tm 2] := by kernel_rfl
theorem fetterlockref6_turned.bodyEq : Try.f50.body = some (Try.f50.body.getD .skip) := by kernel_rfl
theorem fetterlockref6_turned.run {a0 : Int} {H : AHeap} {Q : AHeap → Int → Prop} (h : fetterlockref6_turned.W a0 H Q) : Fn.fetterlockref6_turned a0 H Q := by
  unfold Fn.fetterlockref6_turned RunT
  exact run_of aggs_ok [] Try.func50 fetterlockref6_turned.bodyEq fetterlockref6_turned.slimOk fetterlockref6_turned.resC fetterlockref6_turned.resR (Nat.le_of_ble_eq_true (by kernel_rfl)) (fetterlockref6_turned.ok Q h)
end Go.Proofs.Ytanaaabejeeakaa
end
section
/- What the functions on formulas come to: the checks, the value. -/
namespace Go.Proofs.Ytanaaabejeeakaa
open Go.AI

/-- The parts of a formula in a place. -/
theorem kid_at {rows : List (Int × Int × AC)} {kids : List Fm} (hl : rows.length = kids.length) {i : Nat} (hi : i < kids.length) : ∃ r k, rows[i]? = some r ∧ kids[i]? = some k ∧ (rows.map fun r : Int × Int × AC => ([.int .i64 r.1, .int .i64 r.2.1, r.2.2] : List AC))[i]? = some [.int .i64 r.1, .int .i64 r.2.1, r.2.2] := by
  refine ⟨rows[i], kids[i], List.getElem?_eq_getElem (by omega), List.getElem?_eq_getElem hi, ?_⟩
  rw [List.getElem?_map, List.getElem?_eq_getElem (by omega)]; rfl

theorem pnodes_c : ∀ (n : Nat) {op var : Int} {s : AC} {f : Fm} {H : AHeap} {most : Int}, f.size ≤ n → f.size < 4611686018427387904 → 0 ≤ most → most < 4611686018427387904 → FmAt H op var s f →
    Fn.solve_nodes op var s most H fun H' r => r = min (f.size : Int) (most + 1) ∧ Kp H H' := by
  intro n
  induction n with
  | zero => intro op var s f H most hn; have := f.size_pos; omega
  | succ n ih =>
    intro op var s f H most hn hmax hm0 hm1 hf
    obtain ⟨kids, rows, rfl, hl, hs, hk⟩ := hf.inv
    have hsz : Fm.size (.mk op var kids) = Fm.sizes kids + 1 := by rw [Fm.size]
    have hlen := Fm.sizes_len kids
    refine solve_nodes.run ?_
    unfold solve_nodes.W
    refine New.own fun b H1 hb hs1 ho hkp => ?_
    refine FA.mk (Ld.oc ho rfl (LenS.of (hs.kp hkp) ?_))
    rw [List.length_map, hl]
    unfold solve_nodes.l8
    have fin : ∀ (i : Nat) (x : Int) (H2 : AHeap), Kp H H2 → (x ≤ most ∧ x = ((Fm.sizes (kids.take i) + 1 : Nat) : Int)) ∨ (x = most + 1 ∧ most < ((Fm.sizes (kids.take i) + 1 : Nat) : Int)) → (most < x ∨ kids.length ≤ i) →
        solve_nodes.p27 (fun H' r => r = min ((Fm.size (.mk op var kids) : Nat) : Int) (most + 1) ∧ Kp H H') most x H2 := by
      intro i x H2 hkp2 hx hor
      unfold solve_nodes.p27
      refine ⟨?_, hkp2⟩
      have hle := Fm.sizes_le kids i
      have hw : IntKind.wrap .i64 (most + 1) = most + 1 := wrap64 (by omega) (by omega)
      rw [hw, hsz]
      have hall : kids.length ≤ i → Fm.sizes (kids.take i) = Fm.sizes kids := fun h => by rw [List.take_of_length_le h]
      split <;> rcases hx with ⟨h1, h2⟩ | ⟨h1, h2⟩ <;> rcases hor with h3 | h3 <;> (try have := hall h3) <;> omega
    refine LoopT.rule (fun m s0 H2 => ∃ (i : Nat) (x : Int), i ≤ kids.length ∧ m = kids.length - i ∧ s0 = (most, x, s, (kids.length : Int), (i : Int), ()) ∧ Kp H H2 ∧
      ((x ≤ most ∧ x = ((Fm.sizes (kids.take i) + 1 : Nat) : Int)) ∨ (x = most + 1 ∧ most < ((Fm.sizes (kids.take i) + 1 : Nat) : Int)))) kids.length ⟨0, 1, by omega, by omega, rfl, hkp, ?_⟩ ?_
    · simp only [List.take_zero, Fm.sizes]; omega
    rintro m s0 H2 back ⟨i, x, hi, rfl, rfl, hkp2, hx⟩ hback
    simp only [solve_nodes.b8]
    refine CondB.dec (fun hlt => ?_) fun hge => fin i x H2 hkp2 hx (.inr (by omega))
    have hlt' : i < kids.length := by omega
    obtain ⟨r, k, hri, hki, hro⟩ := kid_at hl hlt'
    refine IA.of (hs.kp hkp2) (by omega) (by rw [Int.toNat_natCast]; exact hro) fun b' o' hld => ?_
    refine Ld.a3 hld r.1 r.2.1 r.2.2 rfl rfl ?_
    refine NewSto.own rfl fun p H3 hp hs3 hbox hk3 => ?_
    have hle := Fm.size_mem kids i k hki
    have htk := Fm.sizes_take kids i k hki
    have htl := Fm.sizes_le kids (i + 1)
    refine CondB.dec (fun hgt => fin i x H3 (hkp2.trans hk3) hx (.inl hgt)) fun hng => ?_
    refine Ld.o3 hbox r.1 r.2.1 r.2.2 rfl ?_
    have hw : IntKind.wrap .i64 (most - x) = most - x := wrap64 (by omega) (by omega)
    rw [hw]
    refine RunT.imp ?_ (ih (by omega) (by omega) (by omega) (by omega) ((hk i r k hri hki).kp (hkp2.trans hk3)))
    rintro H4 v ⟨rfl, hkp4⟩
    refine hback (kids.length - (i + 1)) _ _ (by omega) ⟨i + 1, x + min (k.size : Int) (most - x + 1), by omega, rfl, ?_, (hkp2.trans hk3).trans hkp4, ?_⟩
    · exact tc rfl (tc (wrap64 (by omega) (by omega)) (tc rfl (tc rfl (tc ((wrap64 (by omega) (by omega)).trans (by omega)) rfl))))
    · rw [htk]; omega

theorem boolFault_c : ∀ (n : Nat) {op var : Int} {s : AC} {f : Fm} {H : AHeap}, f.size ≤ n → f.size < 4611686018427387904 → FmAt H op var s f →
    Fn.solve_boolFault op var s H fun H' r => r = f.fault ∧ Kp H H' := by
  intro n
  induction n with
  | zero => intro op var s f H hn; have := f.size_pos; omega
  | succ n ih =>
    intro op var s f H hn hmax hf
    obtain ⟨kids, rows, rfl, hl, hs, hk⟩ := hf.inv
    have hsz : Fm.size (.mk op var kids) = Fm.sizes kids + 1 := by rw [Fm.size]
    have hlen := Fm.sizes_len kids
    refine solve_boolFault.run ?_
    unfold solve_boolFault.W
    refine New.own fun b H1 hb hs1 ho hkp => ?_
    refine FA.mk (Ld.oi ho rfl ?_)
    have hf0 := Fm.fault.eq_1 op var kids
    -- the kids
    have kidsOk : ∀ g : Int, g = Fm.faults kids → solve_boolFault.l58 (fun H' r => r = g ∧ Kp H H') s kids.length 0 H1 := by
      rintro g rfl
      unfold solve_boolFault.l58
      refine LoopT.rule (fun m s0 H2 => ∃ (i : Nat), i ≤ kids.length ∧ m = kids.length - i ∧ s0 = (s, (kids.length : Int), (i : Int), ()) ∧ Kp H H2 ∧ Fm.faults kids = Fm.faults (kids.drop i)) kids.length ⟨0, by omega, by omega, rfl, hkp, by simp⟩ ?_
      rintro m s0 H2 back ⟨i, hi, rfl, rfl, hkp2, hx⟩ hback
      simp only [solve_boolFault.b58]
      refine CondB.dec (fun hlt => ?_) fun hge => ?_
      · have hlt' : i < kids.length := by omega
        obtain ⟨r, k, hri, hki, hro⟩ := kid_at hl hlt'
        refine IA.of (hs.kp hkp2) (by omega) (by rw [Int.toNat_natCast]; exact hro) fun b' o' hld => ?_
        refine Ld.a3 hld r.1 r.2.1 r.2.2 rfl rfl ?_
        refine NewSto.own rfl fun p H3 hp hs3 hbox hk3 => ?_
        refine Ld.o3 hbox r.1 r.2.1 r.2.2 rfl ?_
        have hle := Fm.size_mem kids i k hki
        refine RunT.imp ?_ (ih (by omega) (by omega) ((hk i r k hri hki).kp (hkp2.trans hk3)))
        rintro H4 v ⟨rfl, hkp4⟩
        have hdr := Fm.faults_drop kids i k hki
        refine CondB.ne (fun hne => ⟨?_, (hkp2.trans hk3).trans hkp4⟩) fun he => ?_
        · rw [hx, hdr, if_pos hne]
        · refine hback (kids.length - (i + 1)) _ _ (by omega) ⟨i + 1, by omega, rfl, ?_, (hkp2.trans hk3).trans hkp4, by rw [hx, hdr, if_neg (by omega)]⟩
          exact tc rfl (tc rfl (tc ((wrap64 (by omega) (by omega)).trans (by omega)) rfl))
      · refine ⟨?_, hkp2⟩
        rw [hx, List.drop_eq_nil_of_le (by omega)]; rfl
    have p49 : ∀ (x : Bool), 1 ≤ op → op ≤ 7 → (kids.length : Int) = Fm.want op kids.length → x = decide (var < 0 ∨ Fm.most op < var) → solve_boolFault.p49 (fun H' r => r = Fm.fault (.mk op var kids) ∧ Kp H H') (.ptr (some (b, 0))) x H1 := by
      intro x h1 h2 h3 hx
      unfold solve_boolFault.p49
      refine CondB.mk (fun e => ⟨?_, hkp⟩) fun e => ?_
      · rw [e] at hx
        rw [hf0, if_neg (by omega), if_neg (by omega), if_pos (of_decide_eq_true hx.symm)]
      · rw [e] at hx
        refine FA.mk (Ld.oc ho rfl (LenS.of (hs.kp hkp) ?_))
        rw [List.length_map, hl]
        exact kidsOk _ (by rw [hf0, if_neg (by omega), if_neg (by omega), if_neg (of_decide_eq_false hx.symm)])
    have p43 : ∀ (x : Bool), 1 ≤ op → op ≤ 7 → x = decide ((kids.length : Int) ≠ Fm.want op kids.length) → solve_boolFault.p43 (fun H' r => r = Fm.fault (.mk op var kids) ∧ Kp H H') (.ptr (some (b, 0))) (Fm.most op) x H1 := by
      intro x h1 h2 hx
      unfold solve_boolFault.p43
      refine CondB.mk (fun e => ⟨?_, hkp⟩) fun e => ?_
      · rw [e] at hx
        rw [hf0, if_neg (by omega), if_pos (of_decide_eq_true hx.symm)]
      · rw [e] at hx
        have h3 := of_decide_eq_false hx.symm
        refine FA.mk (Ld.oi ho rfl (CondB.dec (fun hlt => p49 _ h1 h2 (by omega) ?_) fun hge => FA.mk (Ld.oi ho rfl (p49 _ h1 h2 (by omega) ?_))))
        · simp [hlt]
        · rw [Bool.eq_iff_iff]; simp; omega
    have p39 : ∀ (y : Int), 1 ≤ op → op ≤ 7 → (y = Fm.want op kids.length ∧ 0 ≤ y ∨ y < 0 ∧ Fm.want op kids.length = kids.length) → solve_boolFault.p39 (fun H' r => r = Fm.fault (.mk op var kids) ∧ Kp H H') (.ptr (some (b, 0))) y (Fm.most op) H1 := by
      intro y h1 h2 hy
      unfold solve_boolFault.p39
      refine CondB.dec (fun hge => ?_) fun hlt => p43 _ h1 h2 ?_
      · refine FA.mk (Ld.oc ho rfl (LenS.of (hs.kp hkp) (p43 _ h1 h2 ?_)))
        rw [List.length_map, hl, Bool.eq_iff_iff]
        simp only [bne_iff_ne, ne_eq, decide_eq_true_eq]
        rcases hy with ⟨h, _⟩ | ⟨h, _⟩
        · rw [h]
        · omega
      · rcases hy with ⟨_, h⟩ | ⟨_, h⟩
        · omega
        · simp [h]
    have hop : ∀ (y z : Int), op = z → z = 1 ∨ z = 2 ∨ z = 3 ∨ z = 6 ∨ z = 7 → y = Fm.want z kids.length → 0 ≤ y → ∀ mo, mo = Fm.most z → solve_boolFault.p39 (fun H' r => r = Fm.fault (.mk op var kids) ∧ Kp H H') (.ptr (some (b, 0))) y mo H1 := by
      rintro y z rfl hz hy h0 mo rfl
      exact p39 y (by omega) (by omega) (.inl ⟨hy, h0⟩)
    refine CondB.eq (fun e => hop 0 1 e (by omega) (by simp [Fm.want]) (by omega) _ (by simp [Fm.most])) fun e1 => ?_
    refine CondB.eq (fun e => hop 0 2 e (by omega) (by simp [Fm.want]) (by omega) _ (by simp [Fm.most])) fun e2 => ?_
    refine CondB.eq (fun e => hop 1 3 e (by omega) (by simp [Fm.want]) (by omega) _ (by simp [Fm.most])) fun e3 => ?_
    refine CondB.eq (fun e => hop 2 6 e (by omega) (by simp [Fm.want]) (by omega) _ (by simp [Fm.most])) fun e6 => ?_
    refine CondB.eq (fun e => hop 3 7 e (by omega) (by simp [Fm.want]) (by omega) _ (by simp [Fm.most])) fun e7 => ?_
    have hw : Fm.want op kids.length = kids.length := by simp [Fm.want, e1, e2, e3, e6, e7]
    have hmo : Fm.most op = 0 := by simp [Fm.most, e1, e2]
    refine CondB.eq (fun e => ?_) fun e4 => ?_
    · unfold solve_boolFault.p34
      have := p39 (-1) (by omega) (by omega) (.inr ⟨by omega, hw⟩)
      rw [hmo] at this
      exact CondB.pos rfl this
    · unfold solve_boolFault.p34
      refine CondB.eq (fun e => ?_) fun e5 => ⟨?_, hkp⟩
      · have := p39 (-1) (by omega) (by omega) (.inr ⟨by omega, hw⟩)
        rw [hmo] at this
        exact this
      · rw [hf0, if_pos (by omega)]

theorem formulaFault_c : ∀ (n : Nat) {op var : Int} {s : AC} {f : Fm} {H : AHeap}, f.size ≤ n → f.size < 4611686018427387904 → FmAt H op var s f →
    Fn.fetterlockref6_formulaFault op var s H fun H' r => r = f.fault ∧ Kp H H' := by
  intro n
  induction n with
  | zero => intro op var s f H hn; have := f.size_pos; omega
  | succ n ih =>
    intro op var s f H hn hmax hf
    obtain ⟨kids, rows, rfl, hl, hs, hk⟩ := hf.inv
    have hsz : Fm.size (.mk op var kids) = Fm.sizes kids + 1 := by rw [Fm.size]
    have hlen := Fm.sizes_len kids
    refine fetterlockref6_formulaFault.run ?_
    unfold fetterlockref6_formulaFault.W
    refine New.own fun b H1 hb hs1 ho hkp => ?_
    refine FA.mk (Ld.oi ho rfl ?_)
    have hf0 := Fm.fault.eq_1 op var kids
    have kidsOk : ∀ g : Int, g = Fm.faults kids → fetterlockref6_formulaFault.l62 (fun H' r => r = g ∧ Kp H H') (.ptr (some (b, 0))) 0 H1 := by
      rintro g rfl
      unfold fetterlockref6_formulaFault.l62
      refine LoopT.rule (fun m s0 H2 => ∃ (i : Nat), i ≤ kids.length ∧ m = kids.length - i ∧ s0 = (.ptr (some (b, 0)), (i : Int), ()) ∧ Kp H H2 ∧ Own H2 b [.int .i64 op, .int .i64 var, s] ∧ Fm.faults kids = Fm.faults (kids.drop i)) kids.length ⟨0, by omega, by omega, rfl, hkp, ho, by simp⟩ ?_
      rintro m s0 H2 back ⟨i, hi, rfl, rfl, hkp2, ho2, hx⟩ hback
      simp only [fetterlockref6_formulaFault.b62]
      refine FA.mk (Ld.oc ho2 rfl (LenS.of (hs.kp hkp2) ?_))
      rw [List.length_map, hl]
      refine CondB.dec (fun hlt => ?_) fun hge => ?_
      · have hlt' : i < kids.length := by omega
        obtain ⟨r, k, hri, hki, hro⟩ := kid_at hl hlt'
        refine FA.mk (Ld.oc ho2 rfl (IA.of (hs.kp hkp2) (by omega) (by rw [Int.toNat_natCast]; exact hro) fun b' o' hld => ?_))
        refine Ld.a3 hld r.1 r.2.1 r.2.2 rfl rfl ?_
        have hle := Fm.size_mem kids i k hki
        refine RunT.imp ?_ (ih (by omega) (by omega) ((hk i r k hri hki).kp hkp2))
        rintro H4 v ⟨rfl, hkp4⟩
        have hdr := Fm.faults_drop kids i k hki
        refine CondB.ne (fun hne => ⟨?_, hkp2.trans hkp4⟩) fun he => ?_
        · rw [hx, hdr, if_pos hne]
        · refine hback (kids.length - (i + 1)) _ _ (by omega) ⟨i + 1, by omega, rfl, ?_, hkp2.trans hkp4, ho2.kp hkp4, by rw [hx, hdr, if_neg (by omega)]⟩
          exact tc rfl (tc ((wrap64 (by omega) (by omega)).trans (by omega)) rfl)
      · refine ⟨?_, hkp2⟩
        rw [hx, List.drop_eq_nil_of_le (by omega)]; rfl
    have p53 : ∀ (x : Bool), 1 ≤ op → op ≤ 7 → (kids.length : Int) = Fm.want op kids.length → x = decide (var < 0 ∨ Fm.most op < var) → fetterlockref6_formulaFault.p53 (fun H' r => r = Fm.fault (.mk op var kids) ∧ Kp H H') (.ptr (some (b, 0))) x H1 := by
      intro x h1 h2 h3 hx
      unfold fetterlockref6_formulaFault.p53
      refine CondB.mk (fun e => ⟨?_, hkp⟩) fun e => ?_
      · rw [e] at hx
        rw [hf0, if_neg (by omega), if_neg (by omega), if_pos (of_decide_eq_true hx.symm)]
      · rw [e] at hx
        exact kidsOk _ (by rw [hf0, if_neg (by omega), if_neg (by omega), if_neg (of_decide_eq_false hx.symm)])
    have p50 : ∀ mo : Int, 1 ≤ op → op ≤ 7 → (kids.length : Int) = Fm.want op kids.length → mo = Fm.most op → fetterlockref6_formulaFault.p50 (fun H' r => r = Fm.fault (.mk op var kids) ∧ Kp H H') (.ptr (some (b, 0))) mo H1 := by
      rintro mo h1 h2 h3 rfl
      unfold fetterlockref6_formulaFault.p50
      refine FA.mk (Ld.oi ho rfl (CondB.dec (fun hlt => p53 _ h1 h2 h3 ?_) fun hge => FA.mk (Ld.oi ho rfl (p53 _ h1 h2 h3 ?_))))
      · simp [hlt]
      · rw [Bool.eq_iff_iff]; simp; omega
    have p30 : ∀ y : Int, 1 ≤ op → op ≤ 7 → y = Fm.want op kids.length → fetterlockref6_formulaFault.p30 (fun H' r => r = Fm.fault (.mk op var kids) ∧ Kp H H') (.ptr (some (b, 0))) y H1 := by
      rintro y h1 h2 rfl
      unfold fetterlockref6_formulaFault.p30
      refine FA.mk (Ld.oc ho rfl (LenS.of (hs.kp hkp) ?_))
      rw [List.length_map, hl]
      refine CondB.ne (fun hne => ⟨?_, hkp⟩) fun he => ?_
      · rw [hf0, if_neg (by omega), if_pos hne]
      · refine FA.mk (Ld.oi ho rfl (CondB.eq (fun e => p50 _ h1 h2 he (by simp [Fm.most, e])) fun e1 => FA.mk (Ld.oi ho rfl (CondB.eq (fun e => p50 _ h1 h2 he (by simp [Fm.most, e])) fun e2 => p50 _ h1 h2 he (by simp [Fm.most, e1, e2])))))
    have p15 : ∀ x : Bool, 1 ≤ op → op ≤ 7 → x = decide (op = 1 ∨ op = 2) → fetterlockref6_formulaFault.p15 (fun H' r => r = Fm.fault (.mk op var kids) ∧ Kp H H') (.ptr (some (b, 0))) (kids.length : Int) x H1 := by
      rintro x h1 h2 hx
      unfold fetterlockref6_formulaFault.p15
      refine CondB.mk (fun e => p30 _ h1 h2 ?_) fun e => ?_
      · rw [e] at hx
        simp [Fm.want, of_decide_eq_true hx.symm]
      · rw [e] at hx
        have hn := of_decide_eq_false hx.symm
        refine FA.mk (Ld.oi ho rfl (CondB.eq (fun e => p30 _ h1 h2 (by simp [Fm.want, e])) fun e3 => FA.mk (Ld.oi ho rfl (CondB.eq (fun e => p30 _ h1 h2 (by simp [Fm.want, e])) fun e6 => FA.mk (Ld.oi ho rfl (CondB.eq (fun e => p30 _ h1 h2 (by simp [Fm.want, e])) fun e7 => p30 _ h1 h2 (by simp [Fm.want, hn, e3, e6, e7])))))))
    have p5 : ∀ x : Bool, x = decide (op < 1 ∨ 7 < op) → fetterlockref6_formulaFault.p5 (fun H' r => r = Fm.fault (.mk op var kids) ∧ Kp H H') (.ptr (some (b, 0))) x H1 := by
      rintro x hx
      unfold fetterlockref6_formulaFault.p5
      refine CondB.mk (fun e => ⟨?_, hkp⟩) fun e => ?_
      · rw [e] at hx
        rw [hf0, if_pos (of_decide_eq_true hx.symm)]
      · rw [e] at hx
        have hn := of_decide_eq_false hx.symm
        refine FA.mk (Ld.oc ho rfl (LenS.of (hs.kp hkp) ?_))
        rw [List.length_map, hl]
        refine FA.mk (Ld.oi ho rfl (CondB.eq (fun e => p15 _ (by omega) (by omega) (by simp [e])) fun e1 => FA.mk (Ld.oi ho rfl (p15 _ (by omega) (by omega) ?_))))
        rw [Bool.eq_iff_iff]; simp [e1]
    refine CondB.dec (fun h => p5 _ (by simp [h])) fun h => FA.mk (Ld.oi ho rfl (p5 _ ?_))
    rw [Bool.eq_iff_iff]; simp; omega

/-- What both checks of a formula say. -/
def boolFaultOf (f : Fm) : Int := if 300 < f.size then 3 else f.fault
theorem CheckBool_c {op var : Int} {s : AC} {f : Fm} {H : AHeap} (hmax : f.size < 4611686018427387904) (hf : FmAt H op var s f) :
    Fn.solve_CheckBool op var s H fun H' r => r = boolFaultOf f ∧ Kp H H' := by
  refine solve_CheckBool.run ?_
  unfold solve_CheckBool.W
  refine New.own fun b H1 hb hs1 ho hkp => ?_
  refine Ld.o3 ho op var s rfl ?_
  refine RunT.imp ?_ (pnodes_c f.size (Nat.le_refl _) hmax (by omega) (by omega) (hf.kp hkp))
  rintro H2 r ⟨rfl, hkp2⟩
  unfold boolFaultOf
  refine CondB.dec (fun h => ⟨by rw [if_pos (by omega)], hkp.trans hkp2⟩) fun h => ?_
  refine Ld.o3 (ho.kp hkp2) op var s rfl ?_
  refine RunT.imp ?_ (boolFault_c f.size (Nat.le_refl _) hmax (hf.kp (hkp.trans hkp2)))
  rintro H3 r ⟨rfl, hkp3⟩
  exact ⟨by rw [if_neg (by omega)], (hkp.trans hkp2).trans hkp3⟩
theorem BoolFault_c {op var : Int} {s : AC} {f : Fm} {H : AHeap} (hmax : f.size < 4611686018427387904) (hf : FmAt H op var s f) :
    Fn.fetterlockref6_BoolFault op var s H fun H' r => r = boolFaultOf f ∧ Kp H H' := by
  refine fetterlockref6_BoolFault.run ?_
  unfold fetterlockref6_BoolFault.W
  refine New.own fun b H1 hb hs1 ho hkp => ?_
  refine Ld.o3 ho op var s rfl ?_
  refine RunT.imp ?_ (nodes_c f.size (Nat.le_refl _) hmax (hf.kp hkp))
  rintro H2 r ⟨rfl, hkp2⟩
  unfold boolFaultOf
  refine CondB.dec (fun h => ⟨by rw [if_pos (by omega)], hkp.trans hkp2⟩) fun h => ?_
  refine Ld.o3 (ho.kp hkp2) op var s rfl ?_
  refine RunT.imp ?_ (formulaFault_c f.size (Nat.le_refl _) hmax (hf.kp (hkp.trans hkp2)))
  rintro H3 r ⟨rfl, hkp3⟩
  exact ⟨by rw [if_neg (by omega)], (hkp.trans hkp2).trans hkp3⟩
end Go.Proofs.Ytanaaabejeeakaa
end
