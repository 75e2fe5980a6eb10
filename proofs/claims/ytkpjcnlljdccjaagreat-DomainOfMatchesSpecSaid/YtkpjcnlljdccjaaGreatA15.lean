/- Joined by a program: what the proof of the law leans on, part 15. -/
import Derived.Test.YtkpjcnlljdccjaaGreatA14
import Derived.Lib.SlicesCompact
set_option linter.unusedVariables false
set_option linter.unusedSimpArgs false
section
namespace Go.Proofs.YtkpjcnlljdccjaaGreat
open Go.AI
set_option maxRecDepth 100000
set_option maxHeartbeats 2000000
set_option linter.unusedVariables false
attribute [local irreducible] Ld Sto New NewS NewM NN NZ GE0 FA IA IAP LenS Slc App Cpy Clr MkS Fnc NilQ IxS Look MSet Run CV RunT CVT LoopT Same1 Same2 wpC wpOs wpT wpO wpOp
def Z3.c : RC := (.seq (.ops [.put 2 (.mov (.ct (.one (.bool false))))]) (.seq (.ops [pM 3 0, .put 4 (.cm .ge (.tm 3) (.ct (.one (.int .i64 (-16384))))), pM 5 4, .gput 6 5 true (.mov (.tm 0)), .gput 7 5 true (.cm .le (.tm 6) (cI 16384)), .put 8 (.pick (.tm 5) (.tm 7) (.ct (.one (.bool false)))), pM 2 8]) .ret))
abbrev Z3.KQ (Q : AHeap → Bool → Prop) : AV → AHeap → Prop := KQT [(false, [.bool])] Q
abbrev Z3.K (Q : AHeap → Bool → Prop) : Ex → Env → AHeap → Prop := kTop [.tm 2] (Z3.KQ Q)
def Z3.W (a0 : Int) (H : AHeap) (Q : AHeap → Bool → Prop) : Prop := CondB (decide (a0 ≥ (-16384))) (Q H (decide (a0 ≤ 16384))) (Q H false)
theorem Z3.ok {a0 : Int} {H : AHeap} (Q : AHeap → Bool → Prop) : Z3.W a0 H Q → wpF Tryz.prog Z3.c [.tm 2] (envOf [(.one (.int .i64 a0))]) H (Z3.KQ Q) := cO (sP (o_mov rfl (sK (cO (sP (o_mov rfl (sP (o_ge rfl rfl (sP (o_mov rfl (s_cons (w_gputT rfl (o_mov rfl (s_cons (w_gputY rfl (o_le rfl rfl (sP (o_pickT rfl rfl (sP (o_mov rfl (sK (c_ret (k_topR (r_one rfl (r_nil (fun h => ⟨(((decide (a0 ≤ 16384)) : Bool), ()), rfl, h⟩)))))))))))))) (s_cons (w_gputN rfl (sP (o_pickF rfl rfl (sP (o_mov rfl (sK (c_ret (k_topR (r_one rfl (r_nil (fun h => ⟨((false : Bool), ()), rfl, h⟩))))))))))))))))))))))))
theorem Z3.run {a0 : Int} {H : AHeap} {Q : AHeap → Bool → Prop} (h : Z3.W a0 H Q) : Fn.Z3 a0 H Q := by
  unfold Fn.Z3 RunT
  exact runK aggs_ok [] Tryz.func30 rfl (by kernel_rfl) (by kernel_rfl) (by kernel_rfl) (by kernel_rfl) (by kernel_rfl) (Z3.ok Q h)
def Z1.c : RC := (.seq (.ops [.put 2 (.mov (.ct (.one (.sl none 0 0 (some 0))))), .put 3 (.mov (cI 0))]) (.seq (.block 0 (.seq (.ops [pM 5 0, .put 6 (.lens (.tm 5)), .put 7 (.cm .eq (.tm 6) (cI 0)), pM 4 7]) (.cond 4 (.seq (.ops [.put 2 (.mov (.ct (.one (.sl none 0 0 (some 0))))), .put 3 (.mov (cI 15))]) .ret) (.seq (.ops [pM 9 0, .put 10 (.lens (.tm 9)), .put 11 (.cm .gt (.tm 10) (cI 256)), pM 8 11]) (.cond 8 (.seq (.ops [.put 2 (.mov (.ct (.one (.sl none 0 0 (some 0))))), .put 3 (.mov (cI 3))]) .ret) .skip))))) (.seq (.ops [pM 12 0, .put 13 (.call 53 [(.tm 12)]), pM 2 13, .put 3 (.mov (cI 0))]) .ret)))
abbrev Z1.KQ (Q : AHeap → AC → Int → Prop) : AV → AHeap → Prop := KQT [(false, [.ac]), (false, [.int .i64])] Q
abbrev Z1.K (Q : AHeap → AC → Int → Prop) : Ex → Env → AHeap → Prop := kTop [.tm 2, .tm 3] (Z1.KQ Q)
def Z1.W (a0 : AC) (H : AHeap) (Q : AHeap → AC → Int → Prop) : Prop := LenS a0 fun n_1 => CondB (n_1 == 0) (Q H (.sl none 0 0 (some 0)) 15) (LenS a0 fun n_2 => CondB (decide (n_2 > 256)) (Q H (.sl none 0 0 (some 0)) 3) (Fn.Z9 a0 H fun H_3 (v_4 : AC) => Q H_3 v_4 0))
theorem Z1.ok {a0 : AC} {H : AHeap} (Q : AHeap → AC → Int → Prop) : Z1.W a0 H Q → wpF Tryz.prog Z1.c [.tm 2, .tm 3] (envOf [(.one a0)]) H (Z1.KQ Q) := cO (sP (o_mov rfl (sP (o_mov rfl (sK (c_seq (c_blk (cO (sP (o_mov rfl (sP (o_lens rfl (fun n_1 => sP (o_eq rfl rfl (sP (o_mov rfl (sK (c_if rfl (cO (sP (o_mov rfl (sP (o_mov rfl (sK (c_ret (k_blkR (k_seqR (k_topR (r_one rfl (r_one rfl (r_nil (fun h => ⟨((.sl none 0 0 (some 0)), (15 : Int), ()), rfl, h⟩)))))))))))))) (cO (sP (o_mov rfl (sP (o_lens rfl (fun n_2 => sP (o_gt rfl rfl (sP (o_mov rfl (sK (c_if rfl (cO (sP (o_mov rfl (sP (o_mov rfl (sK (c_ret (k_blkR (k_seqR (k_topR (r_one rfl (r_one rfl (r_nil (fun h => ⟨((.sl none 0 0 (some 0)), (3 : Int), ()), rfl, h⟩)))))))))))))) (c_skip (k_blk (k_seq (cO (sP (o_mov rfl (sP (o_call rfl (cv_1 (fun H_3 (v_4 : AC) => sP (o_mov rfl (sP (o_mov rfl (sK (c_ret (k_topR (r_one rfl (r_one rfl (r_nil (fun h => ⟨(v_4, (0 : Int), ()), rfl, h⟩)))))))))))))))))))))))))))))))))))))))))))))))))
theorem Z1.run {a0 : AC} {H : AHeap} {Q : AHeap → AC → Int → Prop} (h : Z1.W a0 H Q) : Fn.Z1 a0 H Q := by
  unfold Fn.Z1 RunT
  exact runK aggs_ok [] Tryz.func31 rfl (by kernel_rfl) (by kernel_rfl) (by kernel_rfl) (by kernel_rfl) (by kernel_rfl) (Z1.ok Q h)
def Z2.c25 : RC := (.cond 32 (.ops [pM 33 4, pM 34 7, .put 35 (.ar .sub (.tm 34) (cI 1)), pM 36 6, .put 37 (.ia 2 (.tm 33) (.tm 35)), .put 38 (.fa 1 (.tm 37)), .run (.st 1 (.tm 38) (.tm 36))]) (.ops [pM 39 4, pM 40 6, pM 41 6, .put 42 (.bld [(.int .i64 0), (.int .i64 0)] [(0, 1, (.tm 40)), (1, 1, (.tm 41))]), .put 43 (.blds 49 2 1 [(.int .i64 0), (.int .i64 0)] [(0, 2, (.tm 42))]), .put 44 (.app 49 2 16 (.tm 39) (.tm 43)), pM 4 44]))
def Z2.c11 : RC := (.seq (.ops [.put 15 (.cm .lt (.tm 14) (.tm 13))]) (.seq (.cond 15 .skip (.exit 0)) (.seq (.block 1 (.seq (.ops [.put 16 (.ia 1 (.tm 12) (.tm 14)), .put 17 (.ld false [.int .i64] (.tm 16)), pM 6 17]) (.seq (.ops [pM 18 4, .put 19 (.lens (.tm 18)), pM 7 19]) (.seq (.ops [pM 20 7, .put 21 (.cm .gt (.tm 20) (cI 0)), pM 22 21, .gput 23 22 true (.mov (.tm 4)), .gput 24 22 true (.mov (.tm 7)), .gput 25 22 true (.ar .sub (.tm 24) (cI 1)), .gput 26 22 true (.ia 2 (.tm 23) (.tm 25)), .gput 27 22 true (.fa 1 (.tm 26)), .gput 28 22 true (.ld false [.int .i64] (.tm 27)), .gput 29 22 true (.ar .add (.tm 28) (cI 1)), .gput 30 22 true (.mov (.tm 6)), .gput 31 22 true (.cm .eq (.tm 29) (.tm 30)), .put 32 (.pick (.tm 22) (.tm 31) (.ct (.one (.bool false))))]) Z2.c25)))) (.ops [.put 45 (.ar .add (.tm 14) (cI 1)), pM 14 45]))))
def Z2.c : RC := (.seq (.ops [.put 2 (.mov (.ct (.one (.sl none 0 0 (some 0)))))]) (.seq (.ops [pM 8 0, .put 9 (.call 61 [(.tm 8)]), .put 10 (.call 60 [(.tm 9)]), .put 11 (.call 59 [(.tm 10)]), pM 3 11]) (.seq (.ops [.put 4 (.mov (.ct (.one (.sl none 0 0 (some 0)))))]) (.seq (.seq (.ops [pM 12 3, .put 13 (.lens (.tm 12)), .put 14 (.mov (cI 0))]) (.block 0 (.loop Z2.c11))) (.seq (.ops [pM 46 4, pM 2 46]) .ret)))))
abbrev Z2.KQ (Q : AHeap → AC → Prop) : AV → AHeap → Prop := KQT [(false, [.ac])] Q
abbrev Z2.K (Q : AHeap → AC → Prop) : Ex → Env → AHeap → Prop := kTop [.tm 2] (Z2.KQ Q)
abbrev Z2.k7 (Q : AHeap → AC → Prop) : Ex → Env → AHeap → Prop := kSeq (fun t H => wpC Tryz.prog (.seq (.ops [pM 46 4, pM 2 46]) .ret) t H (Z2.K Q)) (Z2.K Q)
abbrev Z2.k18 (Q : AHeap → AC → Prop) (X10 : Env → AHeap → Prop) : Ex → Env → AHeap → Prop := kSeq (fun t H => wpC Tryz.prog (.ops [.put 45 (.ar .add (.tm 14) (cI 1)), pM 14 45]) t H (kSeq X10 (kBlk 0 (Z2.k7 Q)))) (kSeq X10 (kBlk 0 (Z2.k7 Q)))
def Z2.R10 (s : Tup [.ac, .ac, .int .i64, .int .i64]) (t : Env) : Prop := t 4 = (.one (s.1)) ∧ t 12 = (.one (s.2.1)) ∧ t 13 = (.one (.int .i64 (s.2.2.1))) ∧ t 14 = (.one (.int .i64 (s.2.2.2.1))) ∧ True
def Z2.p25 (Q : AHeap → AC → Prop) (Y10 : Tup [.ac, .ac, .int .i64, .int .i64] → AHeap → Prop) (x4 : AC) (x6 : Int) (x7 : Int) (x12 : AC) (x13 : Int) (x14 : Int) (x32 : Bool) (H : AHeap) : Prop := CondB x32 (IA 2 x4 (IntKind.wrap .i64 (x7 - 1)) fun q_1 => FA 1 q_1 fun q_2 => Sto H q_2 [(.int .i64 x6)] fun H_3 => Y10 (x4, x12, (x13 : Int), ((IntKind.wrap .i64 (x14 + 1)) : Int), ()) H_3) (NewS 49 2 1 [(.int .i64 x6), (.int .i64 x6)] H fun p_4 H_5 => App 49 2 16 x4 p_4 H_5 fun s_6 H_7 => Y10 (s_6, x12, (x13 : Int), ((IntKind.wrap .i64 (x14 + 1)) : Int), ()) H_7)
def Z2.b10 (Q : AHeap → AC → Prop) (Y10 : Tup [.ac, .ac, .int .i64, .int .i64] → AHeap → Prop) (x4 : AC) (x12 : AC) (x13 : Int) (x14 : Int) (H : AHeap) : Prop := CondB (decide (x14 < x13)) (IA 1 x12 x14 fun q_1 => Ld [.int .i64] H q_1 fun (v_2 : Int) => LenS x4 fun n_3 => CondB (decide (n_3 > 0)) (IA 2 x4 (IntKind.wrap .i64 (n_3 - 1)) fun q_4 => FA 1 q_4 fun q_5 => Ld [.int .i64] H q_5 fun (v_6 : Int) => Z2.p25 Q Y10 x4 v_2 n_3 x12 x13 x14 ((IntKind.wrap .i64 (v_6 + 1)) == v_2) H) (Z2.p25 Q Y10 x4 v_2 n_3 x12 x13 x14 false H)) (Q H x4)
def Z2.l10 (Q : AHeap → AC → Prop) (x4 : AC) (x12 : AC) (x13 : Int) (x14 : Int) (H : AHeap) : Prop := LoopT (Tup [.ac, .ac, .int .i64, .int .i64]) (fun Y s H => Z2.b10 Q Y (s.1) (s.2.1) (s.2.2.1) (s.2.2.2.1) H) (x4, x12, x13, x14, ()) H
def Z2.W (a0 : AC) (H : AHeap) (Q : AHeap → AC → Prop) : Prop := Fn.Z12 a0 H fun H_1 (v_2 : AC) => Fn.Z11 v_2 H_1 fun H_3 (v_4 : AC) => Fn.slices_Compact_int_int v_4 H_3 fun H_5 (v_6 : AC) => LenS v_6 fun n_7 => Z2.l10 Q (.sl none 0 0 (some 0)) v_6 n_7 0 H_5
theorem Z2.p25_okE (Q : AHeap → AC → Prop) (Y10 : Tup [.ac, .ac, .int .i64, .int .i64] → AHeap → Prop) (X10 : Env → AHeap → Prop) (hX10 : ∀ s t H, Z2.R10 s t → Y10 s H → X10 t H) {x4 : AC} {x6 : Int} {x7 : Int} {x12 : AC} {x13 : Int} {x14 : Int} {x32 : Bool} {H : AHeap} (j : Env) : Z2.p25 Q Y10 x4 x6 x7 x12 x13 x14 x32 H → wpC Tryz.prog Z2.c25 (upd (upd (upd (upd (upd (upd (upd j 4 (.one x4)) 6 (.one (.int .i64 x6))) 7 (.one (.int .i64 x7))) 12 (.one x12)) 13 (.one (.int .i64 x13))) 14 (.one (.int .i64 x14))) 32 (.one (.bool x32))) H (kBlk 1 (Z2.k18 Q X10)) := c_if rfl (c_ops (sP (o_mov rfl (sP (o_mov rfl (sP (o_sub rfl rfl (sP (o_mov rfl (sP (o_ia rfl rfl (fun q_1 => sP (o_fa rfl (fun q_2 => s_cons (w_run (o_st rfl rfl rfl (fun H_3 => s_nil (k_blk (k_seq (c_ops (sP (o_add rfl rfl (sP (o_mov rfl (sK (hX10 _ _ _ ⟨rfl, rfl, rfl, rfl, trivial⟩)))))))))))))))))))))))))) (c_ops (sP (o_mov rfl (sP (o_mov rfl (sP (o_mov rfl (sP (o_bld rfl (sP (o_blds rfl (fun p_4 H_5 => sP (o_app rfl rfl (fun s_6 H_7 => sP (o_mov rfl (s_nil (k_blk (k_seq (c_ops (sP (o_add rfl rfl (sP (o_mov rfl (sK (hX10 _ _ _ ⟨rfl, rfl, rfl, rfl, trivial⟩)))))))))))))))))))))))))
theorem Z2.p25_ok (Q : AHeap → AC → Prop) (Y10 : Tup [.ac, .ac, .int .i64, .int .i64] → AHeap → Prop) (X10 : Env → AHeap → Prop) (hX10 : ∀ s t H, Z2.R10 s t → Y10 s H → X10 t H) {x4 : AC} {x6 : Int} {x7 : Int} {x12 : AC} {x13 : Int} {x14 : Int} {x32 : Bool} {H : AHeap} {t : Env} (h4 : t 4 = (.one x4)) (h6 : t 6 = (.one (.int .i64 x6))) (h7 : t 7 = (.one (.int .i64 x7))) (h12 : t 12 = (.one x12)) (h13 : t 13 = (.one (.int .i64 x13))) (h14 : t 14 = (.one (.int .i64 x14))) (h32 : t 32 = (.one (.bool x32))) (h : Z2.p25 Q Y10 x4 x6 x7 x12 x13 x14 x32 H) : wpC Tryz.prog Z2.c25 t H (kBlk 1 (Z2.k18 Q X10)) := by
  have g := Z2.p25_okE Q Y10 X10 hX10 t h
  rw [upd_self h4] at g
  rw [upd_self h6] at g
  rw [upd_self h7] at g
  rw [upd_self h12] at g
  rw [upd_self h13] at g
  rw [upd_self h14] at g
  rw [upd_self h32] at g
  exact g
theorem Z2.b10_ok (Q : AHeap → AC → Prop) (Y10 : Tup [.ac, .ac, .int .i64, .int .i64] → AHeap → Prop) (X10 : Env → AHeap → Prop) (hX10 : ∀ s t H, Z2.R10 s t → Y10 s H → X10 t H) {x4 : AC} {x12 : AC} {x13 : Int} {x14 : Int} {H : AHeap} (j : Env) : Z2.b10 Q Y10 x4 x12 x13 x14 H → wpC Tryz.prog Z2.c11 (upd (upd (upd (upd j 4 (.one x4)) 12 (.one x12)) 13 (.one (.int .i64 x13))) 14 (.one (.int .i64 x14))) H (kSeq X10 (kBlk 0 (Z2.k7 Q))) := cO (sP (o_lt rfl rfl (sK (c_seq (c_if rfl (c_skip (k_seq (c_seq (c_blk (cO (sP (o_ia rfl rfl (fun q_1 => sP (o_ld1 rfl (fun (v_2 : Int) => sP (o_mov rfl (sK (cO (sP (o_mov rfl (sP (o_lens rfl (fun n_3 => sP (o_mov rfl (sK (cO (sP (o_mov rfl (sP (o_gt rfl rfl (sP (o_mov rfl (s_cons (w_gputT rfl (o_mov rfl (s_cons (w_gputY rfl (o_mov rfl (s_cons (w_gputY rfl (o_sub rfl rfl (s_cons (w_gputY rfl (o_ia rfl rfl (fun q_4 => s_cons (w_gputY rfl (o_fa rfl (fun q_5 => s_cons (w_gputY rfl (o_ld1 rfl (fun (v_6 : Int) => s_cons (w_gputY rfl (o_add rfl rfl (s_cons (w_gputY rfl (o_mov rfl (s_cons (w_gputY rfl (o_eq rfl rfl (sP (o_pickT rfl rfl (sK (Z2.p25_ok Q Y10 X10 hX10 rfl rfl rfl rfl rfl rfl rfl))))))))))))))))))))))))))))) (s_cons (w_gputN rfl (s_cons (w_gputN rfl (s_cons (w_gputN rfl (s_cons (w_gputN rfl (s_cons (w_gputN rfl (s_cons (w_gputN rfl (s_cons (w_gputN rfl (s_cons (w_gputN rfl (sP (o_pickF rfl rfl (sK (Z2.p25_ok Q Y10 X10 hX10 rfl rfl rfl rfl rfl rfl rfl))))))))))))))))))))))))))))))))))))))))))))))))) (c_exit (k_seqE (k_seqE (k_blkH (k_seq (cO (sP (o_mov rfl (sP (o_mov rfl (sK (c_ret (k_topR (r_one rfl (r_nil (fun h => ⟨(x4, ()), rfl, h⟩)))))))))))))))))))))
theorem Z2.l10_ok (Q : AHeap → AC → Prop) {x4 : AC} {x12 : AC} {x13 : Int} {x14 : Int} {H : AHeap} {t : Env} (h4 : t 4 = (.one x4)) (h12 : t 12 = (.one x12)) (h13 : t 13 = (.one (.int .i64 x13))) (h14 : t 14 = (.one (.int .i64 x14))) : Z2.l10 Q x4 x12 x13 x14 H → wpC Tryz.prog (.loop Z2.c11) t H (kBlk 0 (Z2.k7 Q)) :=
  m_loop Z2.R10 ⟨h4, h12, h13, h14, trivial⟩ fun X Y hX s t H hR hB => by
    have g := Z2.b10_ok Q Y X hX t hB
    rw [upd_self hR.1] at g
    rw [upd_self hR.2.1] at g
    rw [upd_self hR.2.2.1] at g
    rw [upd_self hR.2.2.2.1] at g
    exact g
theorem Z2.ok {a0 : AC} {H : AHeap} (Q : AHeap → AC → Prop) : Z2.W a0 H Q → wpF Tryz.prog Z2.c [.tm 2] (envOf [(.one a0)]) H (Z2.KQ Q) := cO (sP (o_mov rfl (sK (cO (sP (o_mov rfl (sP (o_call rfl (cv_1 (fun H_1 (v_2 : AC) => sP (o_call rfl (cv_1 (fun H_3 (v_4 : AC) => sP (o_call rfl (cv_1 (fun H_5 (v_6 : AC) => sP (o_mov rfl (sK (cO (sP (o_mov rfl (sK (c_seq (cO (sP (o_mov rfl (sP (o_lens rfl (fun n_7 => sP (o_mov rfl (sK (c_blk (Z2.l10_ok Q rfl rfl rfl rfl)))))))))))))))))))))))))))))))))
theorem Z2.run {a0 : AC} {H : AHeap} {Q : AHeap → AC → Prop} (h : Z2.W a0 H Q) : Fn.Z2 a0 H Q := by
  unfold Fn.Z2 RunT
  exact runK aggs_ok [] Tryz.func32 rfl (by kernel_rfl) (by kernel_rfl) (by kernel_rfl) (by kernel_rfl) (by kernel_rfl) (Z2.ok Q h)
def Z8.c9 : RC := (.seq (.seq (.ops [pM 7 5, pM 8 0, .put 9 (.lens (.tm 8)), .put 10 (.cm .lt (.tm 7) (.tm 9))]) (.cond 10 .skip (.exit 0))) (.seq (.block 1 (.seq (.ops [pM 13 0, pM 14 5, .put 15 (.ia 1 (.tm 13) (.tm 14)), .put 16 (.ld false [.bool] (.tm 15))]) (.cond 16 (.ops [pM 17 4, pM 18 5, .put 19 (.ar .sub (.tm 18) (cI 16384)), .put 20 (.blds 3 1 1 [(.int .i64 0)] [(0, 1, (.tm 19))]), .put 21 (.app 3 1 8 (.tm 17) (.tm 20)), pM 4 21]) .skip))) (.ops [pM 11 5, .put 12 (.ar .add (.tm 11) (cI 1)), pM 5 12])))
def Z8.c : RC := (.seq (.ops [.put 2 (.mov (.ct (.one (.sl none 0 0 (some 0))))), .put 3 (.mov (cI 0))]) (.seq (.ops [.put 4 (.mov (.ct (.one (.sl none 0 0 (some 0)))))]) (.seq (.seq (.ops [.put 5 (.mov (cI 0))]) (.block 0 (.loop Z8.c9))) (.seq (.ops [pM 22 4, .put 23 (.call 62 [(.tm 22)]), pM 6 23]) (.seq (.seq (.ops [pM 24 6, .put 25 (.lens (.tm 24)), .put 26 (.cm .eq (.tm 25) (cI 0))]) (.cond 26 (.seq (.ops [.put 2 (.mov (.ct (.one (.sl none 0 0 (some 0))))), .put 3 (.mov (cI 15))]) .ret) .skip)) (.seq (.seq (.ops [pM 27 6, .put 28 (.lens (.tm 27)), .put 29 (.cm .gt (.tm 28) (cI 256))]) (.cond 29 (.seq (.ops [.put 2 (.mov (.ct (.one (.sl none 0 0 (some 0))))), .put 3 (.mov (cI 3))]) .ret) .skip)) (.seq (.ops [pM 30 6, pM 2 30, .put 3 (.mov (cI 0))]) .ret)))))))
abbrev Z8.KQ (Q : AHeap → AC → Int → Prop) : AV → AHeap → Prop := KQT [(false, [.ac]), (false, [.int .i64])] Q
abbrev Z8.K (Q : AHeap → AC → Int → Prop) : Ex → Env → AHeap → Prop := kTop [.tm 2, .tm 3] (Z8.KQ Q)
abbrev Z8.k5 (Q : AHeap → AC → Int → Prop) : Ex → Env → AHeap → Prop := kSeq (fun t H => wpC Tryz.prog (.seq (.ops [pM 22 4, .put 23 (.call 62 [(.tm 22)]), pM 6 23]) (.seq (.seq (.ops [pM 24 6, .put 25 (.lens (.tm 24)), .put 26 (.cm .eq (.tm 25) (cI 0))]) (.cond 26 (.seq (.ops [.put 2 (.mov (.ct (.one (.sl none 0 0 (some 0))))), .put 3 (.mov (cI 15))]) .ret) .skip)) (.seq (.seq (.ops [pM 27 6, .put 28 (.lens (.tm 27)), .put 29 (.cm .gt (.tm 28) (cI 256))]) (.cond 29 (.seq (.ops [.put 2 (.mov (.ct (.one (.sl none 0 0 (some 0))))), .put 3 (.mov (cI 3))]) .ret) .skip)) (.seq (.ops [pM 30 6, pM 2 30, .put 3 (.mov (cI 0))]) .ret)))) t H (Z8.K Q)) (Z8.K Q)
def Z8.R8 (s : Tup [.ac, .ac, .int .i64]) (t : Env) : Prop := t 0 = (.one (s.1)) ∧ t 4 = (.one (s.2.1)) ∧ t 5 = (.one (.int .i64 (s.2.2.1))) ∧ True
def Z8.b8 (Q : AHeap → AC → Int → Prop) (Y8 : Tup [.ac, .ac, .int .i64] → AHeap → Prop) (x0 : AC) (x4 : AC) (x5 : Int) (H : AHeap) : Prop := LenS x0 fun n_1 => CondB (decide (x5 < n_1)) (IA 1 x0 x5 fun q_2 => Ld [.bool] H q_2 fun (v_3 : Bool) => CondB v_3 (NewS 3 1 1 [(.int .i64 (IntKind.wrap .i64 (x5 - 16384)))] H fun p_4 H_5 => App 3 1 8 x4 p_4 H_5 fun s_6 H_7 => Y8 (x0, s_6, ((IntKind.wrap .i64 (x5 + 1)) : Int), ()) H_7) (Y8 (x0, x4, ((IntKind.wrap .i64 (x5 + 1)) : Int), ()) H)) (Fn.Z7 x4 H fun H_8 (v_9 : AC) => LenS v_9 fun n_10 => CondB (n_10 == 0) (Q H_8 (.sl none 0 0 (some 0)) 15) (LenS v_9 fun n_11 => CondB (decide (n_11 > 256)) (Q H_8 (.sl none 0 0 (some 0)) 3) (Q H_8 v_9 0)))
def Z8.l8 (Q : AHeap → AC → Int → Prop) (x0 : AC) (x4 : AC) (x5 : Int) (H : AHeap) : Prop := LoopT (Tup [.ac, .ac, .int .i64]) (fun Y s H => Z8.b8 Q Y (s.1) (s.2.1) (s.2.2.1) H) (x0, x4, x5, ()) H
def Z8.W (a0 : AC) (H : AHeap) (Q : AHeap → AC → Int → Prop) : Prop := Z8.l8 Q a0 (.sl none 0 0 (some 0)) 0 H
theorem Z8.b8_ok (Q : AHeap → AC → Int → Prop) (Y8 : Tup [.ac, .ac, .int .i64] → AHeap → Prop) (X8 : Env → AHeap → Prop) (hX8 : ∀ s t H, Z8.R8 s t → Y8 s H → X8 t H) {x0 : AC} {x4 : AC} {x5 : Int} {H : AHeap} (j : Env) : Z8.b8 Q Y8 x0 x4 x5 H → wpC Tryz.prog Z8.c9 (upd (upd (upd j 0 (.one x0)) 4 (.one x4)) 5 (.one (.int .i64 x5))) H (kSeq X8 (kBlk 0 (Z8.k5 Q))) := c_seq (cO (sP (o_mov rfl (sP (o_mov rfl (sP (o_lens rfl (fun n_1 => sP (o_lt rfl rfl (sK (c_if rfl (c_skip (k_seq (c_seq (c_blk (cO (sP (o_mov rfl (sP (o_mov rfl (sP (o_ia rfl rfl (fun q_2 => sP (o_ld1 rfl (fun (v_3 : Bool) => sK (c_if rfl (c_ops (sP (o_mov rfl (sP (o_mov rfl (sP (o_sub rfl rfl (sP (o_blds rfl (fun p_4 H_5 => sP (o_app rfl rfl (fun s_6 H_7 => sP (o_mov rfl (s_nil (k_blk (k_seq (c_ops (sP (o_mov rfl (sP (o_add rfl rfl (sP (o_mov rfl (sK (hX8 _ _ _ ⟨rfl, rfl, rfl, trivial⟩))))))))))))))))))))))))) (c_skip (k_blk (k_seq (c_ops (sP (o_mov rfl (sP (o_add rfl rfl (sP (o_mov rfl (sK (hX8 _ _ _ ⟨rfl, rfl, rfl, trivial⟩))))))))))))))))))))))))))) (c_exit (k_seqE (k_seqE (k_blkH (k_seq (cO (sP (o_mov rfl (sP (o_call rfl (cv_1 (fun H_8 (v_9 : AC) => sP (o_mov rfl (sK (c_seq (cO (sP (o_mov rfl (sP (o_lens rfl (fun n_10 => sP (o_eq rfl rfl (sK (c_if rfl (cO (sP (o_mov rfl (sP (o_mov rfl (sK (c_ret (k_seqR (k_topR (r_one rfl (r_one rfl (r_nil (fun h => ⟨((.sl none 0 0 (some 0)), (15 : Int), ()), rfl, h⟩))))))))))))) (c_skip (k_seq (c_seq (cO (sP (o_mov rfl (sP (o_lens rfl (fun n_11 => sP (o_gt rfl rfl (sK (c_if rfl (cO (sP (o_mov rfl (sP (o_mov rfl (sK (c_ret (k_seqR (k_topR (r_one rfl (r_one rfl (r_nil (fun h => ⟨((.sl none 0 0 (some 0)), (3 : Int), ()), rfl, h⟩))))))))))))) (c_skip (k_seq (cO (sP (o_mov rfl (sP (o_mov rfl (sP (o_mov rfl (sK (c_ret (k_topR (r_one rfl (r_one rfl (r_nil (fun h => ⟨(v_9, (0 : Int), ()), rfl, h⟩)))))))))))))))))))))))))))))))))))))))))))))))))))))))))))))))
theorem Z8.l8_ok (Q : AHeap → AC → Int → Prop) {x0 : AC} {x4 : AC} {x5 : Int} {H : AHeap} {t : Env} (h0 : t 0 = (.one x0)) (h4 : t 4 = (.one x4)) (h5 : t 5 = (.one (.int .i64 x5))) : Z8.l8 Q x0 x4 x5 H → wpC Tryz.prog (.loop Z8.c9) t H (kBlk 0 (Z8.k5 Q)) :=
  m_loop Z8.R8 ⟨h0, h4, h5, trivial⟩ fun X Y hX s t H hR hB => by
    have g := Z8.b8_ok Q Y X hX t hB
    rw [upd_self hR.1] at g
    rw [upd_self hR.2.1] at g
    rw [upd_self hR.2.2.1] at g
    exact g
theorem Z8.ok {a0 : AC} {H : AHeap} (Q : AHeap → AC → Int → Prop) : Z8.W a0 H Q → wpF Tryz.prog Z8.c [.tm 2, .tm 3] (envOf [(.one a0)]) H (Z8.KQ Q) := cO (sP (o_mov rfl (sP (o_mov rfl (sK (cO (sP (o_mov rfl (sK (c_seq (cO (sP (o_mov rfl (sK (c_blk (Z8.l8_ok Q rfl rfl rfl))))))))))))))))
theorem Z8.run {a0 : AC} {H : AHeap} {Q : AHeap → AC → Int → Prop} (h : Z8.W a0 H Q) : Fn.Z8 a0 H Q := by
  unfold Fn.Z8 RunT
  exact runK aggs_ok [] Tryz.func33 rfl (by kernel_rfl) (by kernel_rfl) (by kernel_rfl) (by kernel_rfl) (by kernel_rfl) (Z8.ok Q h)
end Go.Proofs.YtkpjcnlljdccjaaGreat
end
section
namespace Go.Proofs.YtkpjcnlljdccjaaGreat
open Go.AI
set_option maxRecDepth 100000
set_option maxHeartbeats 2000000
set_option linter.unusedVariables false
attribute [local irreducible] Ld Sto New NewS NewM NN NZ GE0 FA IA IAP LenS Slc App Cpy Clr MkS Fnc NilQ IxS Look MSet Run CV RunT CVT LoopT Same1 Same2 wpC wpOs wpT wpO wpOp
def Z9.c : RC := (.seq (.ops [.put 2 (.mov (.ct (.one (.sl none 0 0 (some 0)))))]) (.seq (.seq (.ops [pM 3 0, .put 4 (.isnil false (.tm 3))]) (.cond 4 (.seq (.ops [.put 2 (.mov (.ct (.one (.sl none 0 0 (some 0)))))]) .ret) .skip)) (.seq (.ops [.put 5 (.blds 49 2 0 [] []), pM 6 0, .put 7 (.app 49 2 16 (.tm 5) (.tm 6)), pM 2 7]) .ret)))
abbrev Z9.KQ (Q : AHeap → AC → Prop) : AV → AHeap → Prop := KQT [(false, [.ac])] Q
abbrev Z9.K (Q : AHeap → AC → Prop) : Ex → Env → AHeap → Prop := kTop [.tm 2] (Z9.KQ Q)
def Z9.W (a0 : AC) (H : AHeap) (Q : AHeap → AC → Prop) : Prop := NilQ a0 fun b_1 => CondB b_1 (Q H (.sl none 0 0 (some 0))) (NewS 49 2 0 [] H fun p_2 H_3 => App 49 2 16 p_2 a0 H_3 fun s_4 H_5 => Q H_5 s_4)
theorem Z9.ok {a0 : AC} {H : AHeap} (Q : AHeap → AC → Prop) : Z9.W a0 H Q → wpF Tryz.prog Z9.c [.tm 2] (envOf [(.one a0)]) H (Z9.KQ Q) := cO (sP (o_mov rfl (sK (c_seq (cO (sP (o_mov rfl (sP (o_isnil rfl (fun b_1 => sK (c_if rfl (cO (sP (o_mov rfl (sK (c_ret (k_seqR (k_topR (r_one rfl (r_nil (fun h => ⟨((.sl none 0 0 (some 0)), ()), rfl, h⟩)))))))))) (c_skip (k_seq (cO (sP (o_blds rfl (fun p_2 H_3 => sP (o_mov rfl (sP (o_app rfl rfl (fun s_4 H_5 => sP (o_mov rfl (sK (c_ret (k_topR (r_one rfl (r_nil (fun h => ⟨(s_4, ()), rfl, h⟩))))))))))))))))))))))))))))
theorem Z9.run {a0 : AC} {H : AHeap} {Q : AHeap → AC → Prop} (h : Z9.W a0 H Q) : Fn.Z9 a0 H Q := by
  unfold Fn.Z9 RunT
  exact runK aggs_ok [] Tryz.func53 rfl (by kernel_rfl) (by kernel_rfl) (by kernel_rfl) (by kernel_rfl) (by kernel_rfl) (Z9.ok Q h)
end Go.Proofs.YtkpjcnlljdccjaaGreat
end
section
namespace Go.Proofs.YtkpjcnlljdccjaaGreat
open Go.AI
set_option maxRecDepth 100000
set_option maxHeartbeats 2000000
set_option linter.unusedVariables false
attribute [local irreducible] Ld Sto New NewS NewM NN NZ GE0 FA IA IAP LenS Slc App Cpy Clr MkS Fnc NilQ IxS Look MSet Run CV RunT CVT LoopT Same1 Same2 wpC wpOs wpT wpO wpOp
def Z11.c : RC := (.seq (.ops [.put 2 (.mov (.ct (.one (.sl none 0 0 (some 0)))))]) (.seq (.ops [pM 4 0, .put 5 (.call 92 [(.tm 4)]), pM 3 5]) (.seq (.ops [pM 6 3, .put 7 (.call 93 [(.tm 6)])]) (.seq (.ops [pM 8 3, pM 2 8]) .ret))))
abbrev Z11.KQ (Q : AHeap → AC → Prop) : AV → AHeap → Prop := KQT [(false, [.ac])] Q
abbrev Z11.K (Q : AHeap → AC → Prop) : Ex → Env → AHeap → Prop := kTop [.tm 2] (Z11.KQ Q)
def Z11.W (a0 : AC) (H : AHeap) (Q : AHeap → AC → Prop) : Prop := Fn.Z10 a0 H fun H_1 (v_2 : AC) => Fn.slices_Sort_int_int v_2 H_1 fun H_3 => Q H_3 v_2
theorem Z11.ok {a0 : AC} {H : AHeap} (Q : AHeap → AC → Prop) : Z11.W a0 H Q → wpF Tryz.prog Z11.c [.tm 2] (envOf [(.one a0)]) H (Z11.KQ Q) := cO (sP (o_mov rfl (sK (cO (sP (o_mov rfl (sP (o_call rfl (cv_1 (fun H_1 (v_2 : AC) => sP (o_mov rfl (sK (cO (sP (o_mov rfl (sP (o_call rfl (cv_0 (fun H_3 => sK (cO (sP (o_mov rfl (sP (o_mov rfl (sK (c_ret (k_topR (r_one rfl (r_nil (fun h => ⟨(v_2, ()), rfl, h⟩))))))))))))))))))))))))))))))
theorem Z11.run {a0 : AC} {H : AHeap} {Q : AHeap → AC → Prop} (h : Z11.W a0 H Q) : Fn.Z11 a0 H Q := by
  unfold Fn.Z11 RunT
  exact runK aggs_ok [] Tryz.func60 rfl (by kernel_rfl) (by kernel_rfl) (by kernel_rfl) (by kernel_rfl) (by kernel_rfl) (Z11.ok Q h)
def Z12.c : RC := (.seq (.ops [.put 1 (.box 28 (.tm 0)), .put 2 (.mov (.ct (.one .nilFn)))]) (.seq (.ops [.put 3 (.fn 94 [] [(.tm 1)]), pM 2 3]) .ret))
abbrev Z12.KQ (Q : AHeap → AC → Prop) : AV → AHeap → Prop := KQT [(false, [.ac])] Q
abbrev Z12.K (Q : AHeap → AC → Prop) : Ex → Env → AHeap → Prop := kTop [.tm 2] (Z12.KQ Q)
def Z12.W (a0 : AC) (H : AHeap) (Q : AHeap → AC → Prop) : Prop := New 28 [a0] H fun p_1 H_2 => Fnc 94 [] [p_1] fun f_3 => Q H_2 f_3
theorem Z12.ok {a0 : AC} {H : AHeap} (Q : AHeap → AC → Prop) : Z12.W a0 H Q → wpF Tryz.prog Z12.c [.tm 2] (envOf [(.one a0)]) H (Z12.KQ Q) := cO (sP (o_box rfl (fun p_1 H_2 => sP (o_mov rfl (sK (cO (sP (o_fn rfl rfl (fun f_3 => sP (o_mov rfl (sK (c_ret (k_topR (r_one rfl (r_nil (fun h => ⟨(f_3, ()), rfl, h⟩))))))))))))))))
theorem Z12.run {a0 : AC} {H : AHeap} {Q : AHeap → AC → Prop} (h : Z12.W a0 H Q) : Fn.Z12 a0 H Q := by
  unfold Fn.Z12 RunT
  exact runK aggs_ok [] Tryz.func61 rfl (by kernel_rfl) (by kernel_rfl) (by kernel_rfl) (by kernel_rfl) (by kernel_rfl) (Z12.ok Q h)
end Go.Proofs.YtkpjcnlljdccjaaGreat
end
section
namespace Go.Proofs.YtkpjcnlljdccjaaGreat
open Go.AI
set_option maxRecDepth 100000
set_option maxHeartbeats 2000000
set_option linter.unusedVariables false
attribute [local irreducible] Ld Sto New NewS NewM NN NZ GE0 FA IA IAP LenS Slc App Cpy Clr MkS Fnc NilQ IxS Look MSet Run CV RunT CVT LoopT Same1 Same2 wpC wpOs wpT wpO wpOp
def Z7.c19 : RC := (.cond 25 (.ops [pM 26 3, pM 27 3, .put 28 (.lens (.tm 27)), .put 29 (.ar .sub (.tm 28) (cI 1)), pM 30 0, pM 31 4, .put 32 (.ia 1 (.tm 30) (.tm 31)), .put 33 (.ld false [.int .i64] (.tm 32)), .put 34 (.ia 2 (.tm 26) (.tm 29)), .put 35 (.fa 1 (.tm 34)), .run (.st 1 (.tm 35) (.tm 33))]) (.ops [pM 36 3, pM 37 0, pM 38 4, .put 39 (.ia 1 (.tm 37) (.tm 38)), .put 40 (.ld false [.int .i64] (.tm 39)), pM 41 0, pM 42 4, .put 43 (.ia 1 (.tm 41) (.tm 42)), .put 44 (.ld false [.int .i64] (.tm 43)), .put 45 (.bld [(.int .i64 0), (.int .i64 0)] [(0, 1, (.tm 40)), (1, 1, (.tm 44))]), .put 46 (.blds 49 2 1 [(.int .i64 0), (.int .i64 0)] [(0, 2, (.tm 45))]), .put 47 (.app 49 2 16 (.tm 36) (.tm 46)), pM 3 47]))
def Z7.c9 : RC := (.seq (.seq (.ops [pM 5 4, pM 6 0, .put 7 (.lens (.tm 6)), .put 8 (.cm .lt (.tm 5) (.tm 7))]) (.cond 8 .skip (.exit 0))) (.seq (.block 1 (.seq (.ops [pM 11 4, .put 12 (.cm .gt (.tm 11) (cI 0)), pM 13 12, .gput 14 13 true (.mov (.tm 0)), .gput 15 13 true (.mov (.tm 4)), .gput 16 13 true (.ia 1 (.tm 14) (.tm 15)), .gput 17 13 true (.ld false [.int .i64] (.tm 16)), .gput 18 13 true (.mov (.tm 0)), .gput 19 13 true (.mov (.tm 4)), .gput 20 13 true (.ar .sub (.tm 19) (cI 1)), .gput 21 13 true (.ia 1 (.tm 18) (.tm 20)), .gput 22 13 true (.ld false [.int .i64] (.tm 21)), .gput 23 13 true (.ar .add (.tm 22) (cI 1)), .gput 24 13 true (.cm .eq (.tm 17) (.tm 23)), .put 25 (.pick (.tm 13) (.tm 24) (.ct (.one (.bool false))))]) Z7.c19)) (.ops [pM 9 4, .put 10 (.ar .add (.tm 9) (cI 1)), pM 4 10])))
def Z7.c : RC := (.seq (.ops [.put 2 (.mov (.ct (.one (.sl none 0 0 (some 0)))))]) (.seq (.ops [.put 3 (.mov (.ct (.one (.sl none 0 0 (some 0)))))]) (.seq (.seq (.ops [.put 4 (.mov (cI 0))]) (.block 0 (.loop Z7.c9))) (.seq (.ops [pM 48 3, pM 2 48]) .ret))))
abbrev Z7.KQ (Q : AHeap → AC → Prop) : AV → AHeap → Prop := KQT [(false, [.ac])] Q
abbrev Z7.K (Q : AHeap → AC → Prop) : Ex → Env → AHeap → Prop := kTop [.tm 2] (Z7.KQ Q)
abbrev Z7.k5 (Q : AHeap → AC → Prop) : Ex → Env → AHeap → Prop := kSeq (fun t H => wpC Tryz.prog (.seq (.ops [pM 48 3, pM 2 48]) .ret) t H (Z7.K Q)) (Z7.K Q)
abbrev Z7.k16 (Q : AHeap → AC → Prop) (X8 : Env → AHeap → Prop) : Ex → Env → AHeap → Prop := kSeq (fun t H => wpC Tryz.prog (.ops [pM 9 4, .put 10 (.ar .add (.tm 9) (cI 1)), pM 4 10]) t H (kSeq X8 (kBlk 0 (Z7.k5 Q)))) (kSeq X8 (kBlk 0 (Z7.k5 Q)))
def Z7.R8 (s : Tup [.ac, .ac, .int .i64]) (t : Env) : Prop := t 0 = (.one (s.1)) ∧ t 3 = (.one (s.2.1)) ∧ t 4 = (.one (.int .i64 (s.2.2.1))) ∧ True
def Z7.p19 (Q : AHeap → AC → Prop) (Y8 : Tup [.ac, .ac, .int .i64] → AHeap → Prop) (x0 : AC) (x3 : AC) (x4 : Int) (x25 : Bool) (H : AHeap) : Prop := CondB x25 (LenS x3 fun n_1 => IA 1 x0 x4 fun q_2 => Ld [.int .i64] H q_2 fun (v_3 : Int) => IA 2 x3 (IntKind.wrap .i64 (n_1 - 1)) fun q_4 => FA 1 q_4 fun q_5 => Sto H q_5 [(.int .i64 v_3)] fun H_6 => Y8 (x0, x3, ((IntKind.wrap .i64 (x4 + 1)) : Int), ()) H_6) (IA 1 x0 x4 fun q_7 => Ld [.int .i64] H q_7 fun (v_8 : Int) => IA 1 x0 x4 fun q_9 => Ld [.int .i64] H q_9 fun (v_10 : Int) => NewS 49 2 1 [(.int .i64 v_8), (.int .i64 v_10)] H fun p_11 H_12 => App 49 2 16 x3 p_11 H_12 fun s_13 H_14 => Y8 (x0, s_13, ((IntKind.wrap .i64 (x4 + 1)) : Int), ()) H_14)
def Z7.b8 (Q : AHeap → AC → Prop) (Y8 : Tup [.ac, .ac, .int .i64] → AHeap → Prop) (x0 : AC) (x3 : AC) (x4 : Int) (H : AHeap) : Prop := LenS x0 fun n_1 => CondB (decide (x4 < n_1)) (CondB (decide (x4 > 0)) (IA 1 x0 x4 fun q_2 => Ld [.int .i64] H q_2 fun (v_3 : Int) => IA 1 x0 (IntKind.wrap .i64 (x4 - 1)) fun q_4 => Ld [.int .i64] H q_4 fun (v_5 : Int) => Z7.p19 Q Y8 x0 x3 x4 (v_3 == (IntKind.wrap .i64 (v_5 + 1))) H) (Z7.p19 Q Y8 x0 x3 x4 false H)) (Q H x3)
def Z7.l8 (Q : AHeap → AC → Prop) (x0 : AC) (x3 : AC) (x4 : Int) (H : AHeap) : Prop := LoopT (Tup [.ac, .ac, .int .i64]) (fun Y s H => Z7.b8 Q Y (s.1) (s.2.1) (s.2.2.1) H) (x0, x3, x4, ()) H
def Z7.W (a0 : AC) (H : AHeap) (Q : AHeap → AC → Prop) : Prop := Z7.l8 Q a0 (.sl none 0 0 (some 0)) 0 H
theorem Z7.p19_okE (Q : AHeap → AC → Prop) (Y8 : Tup [.ac, .ac, .int .i64] → AHeap → Prop) (X8 : Env → AHeap → Prop) (hX8 : ∀ s t H, Z7.R8 s t → Y8 s H → X8 t H) {x0 : AC} {x3 : AC} {x4 : Int} {x25 : Bool} {H : AHeap} (j : Env) : Z7.p19 Q Y8 x0 x3 x4 x25 H → wpC Tryz.prog Z7.c19 (upd (upd (upd (upd j 0 (.one x0)) 3 (.one x3)) 4 (.one (.int .i64 x4))) 25 (.one (.bool x25))) H (kBlk 1 (Z7.k16 Q X8)) := c_if rfl (c_ops (sP (o_mov rfl (sP (o_mov rfl (sP (o_lens rfl (fun n_1 => sP (o_sub rfl rfl (sP (o_mov rfl (sP (o_mov rfl (sP (o_ia rfl rfl (fun q_2 => sP (o_ld1 rfl (fun (v_3 : Int) => sP (o_ia rfl rfl (fun q_4 => sP (o_fa rfl (fun q_5 => s_cons (w_run (o_st rfl rfl rfl (fun H_6 => s_nil (k_blk (k_seq (c_ops (sP (o_mov rfl (sP (o_add rfl rfl (sP (o_mov rfl (sK (hX8 _ _ _ ⟨rfl, rfl, rfl, trivial⟩)))))))))))))))))))))))))))))))))))) (c_ops (sP (o_mov rfl (sP (o_mov rfl (sP (o_mov rfl (sP (o_ia rfl rfl (fun q_7 => sP (o_ld1 rfl (fun (v_8 : Int) => sP (o_mov rfl (sP (o_mov rfl (sP (o_ia rfl rfl (fun q_9 => sP (o_ld1 rfl (fun (v_10 : Int) => sP (o_bld rfl (sP (o_blds rfl (fun p_11 H_12 => sP (o_app rfl rfl (fun s_13 H_14 => sP (o_mov rfl (s_nil (k_blk (k_seq (c_ops (sP (o_mov rfl (sP (o_add rfl rfl (sP (o_mov rfl (sK (hX8 _ _ _ ⟨rfl, rfl, rfl, trivial⟩)))))))))))))))))))))))))))))))))))))))
theorem Z7.p19_ok (Q : AHeap → AC → Prop) (Y8 : Tup [.ac, .ac, .int .i64] → AHeap → Prop) (X8 : Env → AHeap → Prop) (hX8 : ∀ s t H, Z7.R8 s t → Y8 s H → X8 t H) {x0 : AC} {x3 : AC} {x4 : Int} {x25 : Bool} {H : AHeap} {t : Env} (h0 : t 0 = (.one x0)) (h3 : t 3 = (.one x3)) (h4 : t 4 = (.one (.int .i64 x4))) (h25 : t 25 = (.one (.bool x25))) (h : Z7.p19 Q Y8 x0 x3 x4 x25 H) : wpC Tryz.prog Z7.c19 t H (kBlk 1 (Z7.k16 Q X8)) := by
  have g := Z7.p19_okE Q Y8 X8 hX8 t h
  rw [upd_self h0] at g
  rw [upd_self h3] at g
  rw [upd_self h4] at g
  rw [upd_self h25] at g
  exact g
theorem Z7.b8_ok (Q : AHeap → AC → Prop) (Y8 : Tup [.ac, .ac, .int .i64] → AHeap → Prop) (X8 : Env → AHeap → Prop) (hX8 : ∀ s t H, Z7.R8 s t → Y8 s H → X8 t H) {x0 : AC} {x3 : AC} {x4 : Int} {H : AHeap} (j : Env) : Z7.b8 Q Y8 x0 x3 x4 H → wpC Tryz.prog Z7.c9 (upd (upd (upd j 0 (.one x0)) 3 (.one x3)) 4 (.one (.int .i64 x4))) H (kSeq X8 (kBlk 0 (Z7.k5 Q))) := c_seq (cO (sP (o_mov rfl (sP (o_mov rfl (sP (o_lens rfl (fun n_1 => sP (o_lt rfl rfl (sK (c_if rfl (c_skip (k_seq (c_seq (c_blk (cO (sP (o_mov rfl (sP (o_gt rfl rfl (sP (o_mov rfl (s_cons (w_gputT rfl (o_mov rfl (s_cons (w_gputY rfl (o_mov rfl (s_cons (w_gputY rfl (o_ia rfl rfl (fun q_2 => s_cons (w_gputY rfl (o_ld1 rfl (fun (v_3 : Int) => s_cons (w_gputY rfl (o_mov rfl (s_cons (w_gputY rfl (o_mov rfl (s_cons (w_gputY rfl (o_sub rfl rfl (s_cons (w_gputY rfl (o_ia rfl rfl (fun q_4 => s_cons (w_gputY rfl (o_ld1 rfl (fun (v_5 : Int) => s_cons (w_gputY rfl (o_add rfl rfl (s_cons (w_gputY rfl (o_eq rfl rfl (sP (o_pickT rfl rfl (sK (Z7.p19_ok Q Y8 X8 hX8 rfl rfl rfl rfl))))))))))))))))))))))))))))))))))) (s_cons (w_gputN rfl (s_cons (w_gputN rfl (s_cons (w_gputN rfl (s_cons (w_gputN rfl (s_cons (w_gputN rfl (s_cons (w_gputN rfl (s_cons (w_gputN rfl (s_cons (w_gputN rfl (s_cons (w_gputN rfl (s_cons (w_gputN rfl (sP (o_pickF rfl rfl (sK (Z7.p19_ok Q Y8 X8 hX8 rfl rfl rfl rfl))))))))))))))))))))))))))))))))))))) (c_exit (k_seqE (k_seqE (k_blkH (k_seq (cO (sP (o_mov rfl (sP (o_mov rfl (sK (c_ret (k_topR (r_one rfl (r_nil (fun h => ⟨(x3, ()), rfl, h⟩)))))))))))))))))))))))))))
theorem Z7.l8_ok (Q : AHeap → AC → Prop) {x0 : AC} {x3 : AC} {x4 : Int} {H : AHeap} {t : Env} (h0 : t 0 = (.one x0)) (h3 : t 3 = (.one x3)) (h4 : t 4 = (.one (.int .i64 x4))) : Z7.l8 Q x0 x3 x4 H → wpC Tryz.prog (.loop Z7.c9) t H (kBlk 0 (Z7.k5 Q)) :=
  m_loop Z7.R8 ⟨h0, h3, h4, trivial⟩ fun X Y hX s t H hR hB => by
    have g := Z7.b8_ok Q Y X hX t hB
    rw [upd_self hR.1] at g
    rw [upd_self hR.2.1] at g
    rw [upd_self hR.2.2.1] at g
    exact g
theorem Z7.ok {a0 : AC} {H : AHeap} (Q : AHeap → AC → Prop) : Z7.W a0 H Q → wpF Tryz.prog Z7.c [.tm 2] (envOf [(.one a0)]) H (Z7.KQ Q) := cO (sP (o_mov rfl (sK (cO (sP (o_mov rfl (sK (c_seq (cO (sP (o_mov rfl (sK (c_blk (Z7.l8_ok Q rfl rfl rfl))))))))))))))
theorem Z7.run {a0 : AC} {H : AHeap} {Q : AHeap → AC → Prop} (h : Z7.W a0 H Q) : Fn.Z7 a0 H Q := by
  unfold Fn.Z7 RunT
  exact runK aggs_ok [(5, []), (7, [])] Tryz.func62 rfl (by kernel_rfl) (by kernel_rfl) (by kernel_rfl) (by kernel_rfl) (by kernel_rfl) (Z7.ok Q h)
end Go.Proofs.YtkpjcnlljdccjaaGreat
end
section
namespace Go.Proofs.YtkpjcnlljdccjaaGreat
open Go.AI
set_option maxRecDepth 100000
set_option maxHeartbeats 2000000
set_option linter.unusedVariables false
attribute [local irreducible] Ld Sto New NewS NewM NN NZ GE0 FA IA IAP LenS Slc App Cpy Clr MkS Fnc NilQ IxS Look MSet Run CV RunT CVT LoopT Same1 Same2 wpC wpOs wpT wpO wpOp
def Z10.c : RC := (.seq (.ops [.put 2 (.mov (.ct (.one (.sl none 0 0 (some 0)))))]) (.seq (.ops [pM 3 0, .put 4 (.call 105 [(.ct (.one (.sl none 0 0 (some 0)))), (.tm 3)]), pM 2 4]) .ret))
abbrev Z10.KQ (Q : AHeap → AC → Prop) : AV → AHeap → Prop := KQT [(false, [.ac])] Q
abbrev Z10.K (Q : AHeap → AC → Prop) : Ex → Env → AHeap → Prop := kTop [.tm 2] (Z10.KQ Q)
def Z10.W (a0 : AC) (H : AHeap) (Q : AHeap → AC → Prop) : Prop := RunT Tryz.prog [(false, [.ac])] 105 [(.one (.sl none 0 0 (some 0))), (.one a0)] H fun H_1 (v_2 : AC) => Q H_1 v_2
theorem Z10.ok {a0 : AC} {H : AHeap} (Q : AHeap → AC → Prop) : Z10.W a0 H Q → wpF Tryz.prog Z10.c [.tm 2] (envOf [(.one a0)]) H (Z10.KQ Q) := cO (sP (o_mov rfl (sK (cO (sP (o_mov rfl (sP (o_call rfl (cv_1 (fun H_1 (v_2 : AC) => sP (o_mov rfl (sK (c_ret (k_topR (r_one rfl (r_nil (fun h => ⟨(v_2, ()), rfl, h⟩)))))))))))))))))
theorem Z10.run {a0 : AC} {H : AHeap} {Q : AHeap → AC → Prop} (h : Z10.W a0 H Q) : Fn.Z10 a0 H Q := by
  unfold Fn.Z10 RunT
  exact runK aggs_ok [] Tryz.func92 rfl (by kernel_rfl) (by kernel_rfl) (by kernel_rfl) (by kernel_rfl) (by kernel_rfl) (Z10.ok Q h)
def Z13.c4 : RC := (.seq (.ops [.put 8 (.cm .lt (.tm 7) (.tm 6))]) (.seq (.cond 8 .skip (.exit 0)) (.seq (.block 1 (.seq (.ops [.put 9 (.ia 1 (.tm 5) (.tm 7)), .put 10 (.ld false [.int .i64] (.tm 9)), pM 4 10]) (.seq (.ops [pM 11 0, pM 12 4, .put 13 (.callv (.tm 11) [(.tm 12)]), .put 14 (.not (.tm 13))]) (.cond 14 .ret .skip)))) (.ops [.put 15 (.ar .add (.tm 7) (cI 1)), pM 7 15]))))
def Z13.c : RC := (.seq (.ops [.put 5 (.ld false [.ac] (.tm 1)), .put 6 (.lens (.tm 5)), .put 7 (.mov (cI 0))]) (.block 0 (.loop Z13.c4)))
abbrev Z13.KQ (Q : AHeap → Prop) : AV → AHeap → Prop := KQT [] Q
abbrev Z13.K (Q : AHeap → Prop) : Ex → Env → AHeap → Prop := kTop [] (Z13.KQ Q)
def Z13.R3 (s : Tup [.ac, .ac, .int .i64, .int .i64]) (t : Env) : Prop := t 0 = (.one (s.1)) ∧ t 5 = (.one (s.2.1)) ∧ t 6 = (.one (.int .i64 (s.2.2.1))) ∧ t 7 = (.one (.int .i64 (s.2.2.2.1))) ∧ True
def Z13.b3 (Q : AHeap → Prop) (Y3 : Tup [.ac, .ac, .int .i64, .int .i64] → AHeap → Prop) (x0 : AC) (x5 : AC) (x6 : Int) (x7 : Int) (H : AHeap) : Prop := CondB (decide (x7 < x6)) (IA 1 x5 x7 fun q_1 => Ld [.int .i64] H q_1 fun (v_2 : Int) => CVT Tryz.prog [(false, [.bool])] x0 [(.one (.int .i64 v_2))] H fun H_3 (v_4 : Bool) => CondB (!v_4) (Q H_3 ) (Y3 (x0, x5, (x6 : Int), ((IntKind.wrap .i64 (x7 + 1)) : Int), ()) H_3)) (Q H )
def Z13.l3 (Q : AHeap → Prop) (x0 : AC) (x5 : AC) (x6 : Int) (x7 : Int) (H : AHeap) : Prop := LoopT (Tup [.ac, .ac, .int .i64, .int .i64]) (fun Y s H => Z13.b3 Q Y (s.1) (s.2.1) (s.2.2.1) (s.2.2.2.1) H) (x0, x5, x6, x7, ()) H
def Z13.W (a0 : AC) (a1 : AC) (H : AHeap) (Q : AHeap → Prop) : Prop := Ld [.ac] H a1 fun (v_1 : AC) => LenS v_1 fun n_2 => Z13.l3 Q a0 v_1 n_2 0 H
theorem Z13.b3_ok (Q : AHeap → Prop) (Y3 : Tup [.ac, .ac, .int .i64, .int .i64] → AHeap → Prop) (X3 : Env → AHeap → Prop) (hX3 : ∀ s t H, Z13.R3 s t → Y3 s H → X3 t H) {x0 : AC} {x5 : AC} {x6 : Int} {x7 : Int} {H : AHeap} (j : Env) : Z13.b3 Q Y3 x0 x5 x6 x7 H → wpC Tryz.prog Z13.c4 (upd (upd (upd (upd j 0 (.one x0)) 5 (.one x5)) 6 (.one (.int .i64 x6))) 7 (.one (.int .i64 x7))) H (kSeq X3 (kBlk 0 (Z13.K Q))) := cO (sP (o_lt rfl rfl (sK (c_seq (c_if rfl (c_skip (k_seq (c_seq (c_blk (cO (sP (o_ia rfl rfl (fun q_1 => sP (o_ld1 rfl (fun (v_2 : Int) => sP (o_mov rfl (sK (cO (sP (o_mov rfl (sP (o_mov rfl (sP (o_callv rfl rfl (cu_1 (fun H_3 (v_4 : Bool) => sP (o_not rfl (sK (c_if rfl (c_ret (k_blkR (k_seqR (k_seqR (k_blkR (k_topR (r_nil (fun h => ⟨(()), rfl, h⟩)))))))) (c_skip (k_blk (k_seq (c_ops (sP (o_add rfl rfl (sP (o_mov rfl (sK (hX3 _ _ _ ⟨rfl, rfl, rfl, rfl, trivial⟩)))))))))))))))))))))))))))))))))) (c_exit (k_seqE (k_seqE (k_blkH (k_top (r_nil (fun h => ⟨(()), rfl, h⟩))))))))))))
theorem Z13.l3_ok (Q : AHeap → Prop) {x0 : AC} {x5 : AC} {x6 : Int} {x7 : Int} {H : AHeap} {t : Env} (h0 : t 0 = (.one x0)) (h5 : t 5 = (.one x5)) (h6 : t 6 = (.one (.int .i64 x6))) (h7 : t 7 = (.one (.int .i64 x7))) : Z13.l3 Q x0 x5 x6 x7 H → wpC Tryz.prog (.loop Z13.c4) t H (kBlk 0 (Z13.K Q)) :=
  m_loop Z13.R3 ⟨h0, h5, h6, h7, trivial⟩ fun X Y hX s t H hR hB => by
    have g := Z13.b3_ok Q Y X hX t hB
    rw [upd_self hR.1] at g
    rw [upd_self hR.2.1] at g
    rw [upd_self hR.2.2.1] at g
    rw [upd_self hR.2.2.2.1] at g
    exact g
theorem Z13.ok {a0 : AC} {a1 : AC} {H : AHeap} (Q : AHeap → Prop) : Z13.W a0 a1 H Q → wpF Tryz.prog Z13.c [] (envOf [(.one a0), (.one a1)]) H (Z13.KQ Q) := cO (sP (o_ld1 rfl (fun (v_1 : AC) => sP (o_lens rfl (fun n_2 => sP (o_mov rfl (sK (c_blk (Z13.l3_ok Q rfl rfl rfl rfl)))))))))
theorem Z13.run {a0 : AC} {a1 : AC} {H : AHeap} {Q : AHeap → Prop} (h : Z13.W a0 a1 H Q) : Fn.Z13 a0 a1 H Q := by
  unfold Fn.Z13 RunT
  exact runK aggs_ok [] Tryz.func94 rfl (by kernel_rfl) (by kernel_rfl) (by kernel_rfl) (by kernel_rfl) (by kernel_rfl) (Z13.ok Q h)
end Go.Proofs.YtkpjcnlljdccjaaGreat
end
section

end
section
namespace Go.Proofs.YtkpjcnlljdccjaaGreat
open Go.AI
def Bef (l : List Sp) (i : Nat) (prev : Option Int) : Prop := dScan none l = dScan prev (l.drop i) ∧ (i = 0 ∧ prev = none ∨ ∃ p, 0 < i ∧ l[i - 1]? = some p ∧ prev = some p.2 ∧ -16384 ≤ p.2 ∧ p.2 ≤ 16384)
theorem Bef.here {l : List Sp} {i : Nat} {prev : Option Int} (h : Bef l i prev) {p : Sp} (hp : l[i]? = some p) : dScan none l = if p.1 < -16384 ∨ 16384 < p.2 ∨ p.2 < p.1 then 1 else if prev.any (fun h => decide (p.1 ≤ h + 1)) then 2 else dScan (some p.2) (l.drop (i + 1)) := by
  rw [h.1, List.drop_eq_getElem_cons (List.getElem?_eq_some_iff.1 hp).1]
  rw [List.getElem?_eq_getElem (List.getElem?_eq_some_iff.1 hp).1, Option.some.injEq] at hp
  rw [hp]
  rfl
theorem Bef.next {l : List Sp} {i : Nat} {prev : Option Int} (h : Bef l i prev) {p : Sp} (hp : l[i]? = some p) (h1 : ¬ (p.1 < -16384 ∨ 16384 < p.2 ∨ p.2 < p.1)) (h2 : ¬ prev.any (fun h => decide (p.1 ≤ h + 1)) = true) : Bef l (i + 1) (some p.2) := by
  refine ⟨?_, .inr ⟨p, by omega, by simpa using hp, rfl, by omega, by omega⟩⟩
  rw [h.here hp, if_neg h1, if_neg h2]
theorem labelled_c {H : AHeap} : Fn.fetterlocklaw5_labelled H fun H' q => q = true ∧ Kp H H' := by
  unfold Fn.fetterlocklaw5_labelled
  exact runT_told (v := .one (.bool true)) (H' := H) rfl rfl (true, ()) rfl ⟨rfl, Kp.refl _⟩
end Go.Proofs.YtkpjcnlljdccjaaGreat
end
section
namespace Go.AI
inductive Fm where
  | mk (op var : Int) (kids : List Fm)
namespace Fm
def op : Fm → Int | mk o _ _ => o
def var : Fm → Int | mk _ v _ => v
def kids : Fm → List Fm | mk _ _ k => k
mutual
def size : Fm → Nat
  | mk _ _ ks => sizes ks + 1
def sizes : List Fm → Nat
  | [] => 0
  | k :: ks => size k + sizes ks
end
end Fm
inductive FmAt (H : AHeap) : Int → Int → AC → Fm → Prop
  | mk {op var : Int} {s : AC} {kids : List Fm} (rows : List (Int × Int × AC)) (hl : rows.length = kids.length) (hs : SlR H s 3 (rows.map fun r : Int × Int × AC => [.int .i64 r.1, .int .i64 r.2.1, r.2.2]))
    (hk : ∀ (i : Nat) (r : Int × Int × AC) (k : Fm), rows[i]? = some r → kids[i]? = some k → FmAt H r.1 r.2.1 r.2.2 k) : FmAt H op var s (.mk op var kids)
theorem FmAt.kp {H H' : AHeap} (k : Kp H H') {op var : Int} {s : AC} {f : Fm} (h : FmAt H op var s f) : FmAt H' op var s f := by
  induction h with
  | mk rows hl hs _ ih => exact .mk rows hl (hs.kp k) ih
end Go.AI
end
section
namespace Go.AI
inductive DT where
  | leaf (b : Bool)
  | nd (v : Nat) (l h : DT)
  deriving DecidableEq
namespace DT
def top : DT → Nat
  | leaf _ => 16
  | nd v _ _ => v
def RO : DT → Prop
  | leaf _ => True
  | nd v l h => v < 16 ∧ l ≠ h ∧ v < l.top ∧ v < h.top ∧ l.RO ∧ h.RO
def eval (ρ : Nat → Bool) : DT → Bool
  | leaf b => b
  | nd v l h => if ρ v then h.eval ρ else l.eval ρ
def set (ρ : Nat → Bool) (v : Nat) (x : Bool) : Nat → Bool := fun n => if n = v then x else ρ n
def sz : DT → Nat
  | leaf _ => 0
  | nd _ l h => l.sz + h.sz + 1
def mk (v : Nat) (l h : DT) : DT := if l = h then l else nd v l h
theorem mk_RO {v : Nat} {l h : DT} (hv : v < 16) (h1 : v < l.top) (h2 : v < h.top) (hl : l.RO) (hh : h.RO) : (mk v l h).RO := by
  unfold mk
  split
  · exact hl
  · next hn => exact ⟨hv, hn, h1, h2, hl, hh⟩
theorem mk_top {v : Nat} {l h : DT} (h1 : v < l.top) : v ≤ (mk v l h).top := by
  unfold mk
  split
  · omega
  · simp [top]
def lo (a : DT) (v : Nat) : DT := match a with
  | nd w l _ => if w = v then l else a
  | _ => a
def hi (a : DT) (v : Nat) : DT := match a with
  | nd w _ h => if w = v then h else a
  | _ => a
def ref (st : List DT) : DT → Int
  | leaf false => -1
  | leaf true => -2
  | x => (st.idxOf x : Nat)
def In (st : List DT) (x : DT) : Prop := (∃ b, x = leaf b) ∨ x ∈ st
theorem In.mono {st st' : List DT} {x : DT} (h : In st x) (hp : st <+: st') : In st' x := h.imp id fun hx => hp.subset hx
theorem ref_ge (st : List DT) (v : Nat) (l h : DT) : ref st (nd v l h) = (st.idxOf (nd v l h) : Nat) := rfl
theorem ref_mono {st st' : List DT} {x : DT} (h : In st x) (hp : st <+: st') : ref st' x = ref st x := by
  cases x with
  | leaf b => cases b <;> rfl
  | nd v l h' =>
    rcases h with ⟨b, hb⟩ | hx
    · cases hb
    · obtain ⟨r, rfl⟩ := hp
      rw [ref_ge, ref_ge, List.idxOf_append, if_pos hx]
theorem ref_inj {st : List DT} {x y : DT} (hx : In st x) (hy : In st y) (h : ref st x = ref st y) : x = y := by
  cases x with
  | leaf b => cases y with
    | leaf c => cases b <;> cases c <;> first | rfl | (exfalso; simp [ref] at h)
    | nd v l h' => rw [ref_ge] at h; cases b <;> simp only [ref] at h <;> omega
  | nd v l h' => cases y with
    | leaf c => rw [ref_ge] at h; cases c <;> simp only [ref] at h <;> omega
    | nd w l2 h2 =>
      rcases hx with ⟨b, hb⟩ | hx
      · cases hb
      rcases hy with ⟨b, hb⟩ | hy
      · cases hb
      rw [ref_ge, ref_ge] at h
      have h' : st.idxOf (nd v l h') = st.idxOf (nd w l2 h2) := by omega
      have e1 := List.getElem_idxOf (List.idxOf_lt_length_of_mem hx)
      have e2 := List.getElem_idxOf (List.idxOf_lt_length_of_mem hy)
      rw [← e1, ← e2]
      simp only [h']
theorem ref_lt {st : List DT} {x : DT} (hx : In st x) : -2 ≤ ref st x ∧ ref st x < st.length := by
  cases x with
  | leaf b => cases b <;> simp only [ref] <;> omega
  | nd v l h =>
    rcases hx with ⟨b, hb⟩ | hx
    · cases hb
    · rw [ref_ge]; have := List.idxOf_lt_length_of_mem hx; omega
theorem ref_true {st : List DT} {x : DT} : ref st x = -2 ↔ x = leaf true := by
  cases x with
  | leaf b => cases b <;> simp [ref]
  | nd v l h => rw [ref_ge]; simp
theorem ref_false {st : List DT} {x : DT} : ref st x = -1 ↔ x = leaf false := by
  cases x with
  | leaf b => cases b <;> simp [ref]
  | nd v l h => rw [ref_ge]; simp
theorem ref_get {st : List DT} {x : DT} (hx : In st x) (h0 : 0 ≤ ref st x) : st[(ref st x).toNat]? = some x := by
  cases x with
  | leaf b => cases b <;> simp [ref] at h0
  | nd v l h =>
    rcases hx with ⟨b, hb⟩ | hx
    · cases hb
    · rw [ref_ge, Int.toNat_natCast, List.getElem?_eq_getElem (List.idxOf_lt_length_of_mem hx), List.getElem_idxOf]
theorem ref_new {st : List DT} {v : Nat} {l h : DT} (hn : nd v l h ∉ st) : ref (st ++ [nd v l h]) (nd v l h) = (st.length : Nat) := by
  rw [ref_ge, List.idxOf_append, if_neg hn]; simp
def row (st : List DT) : DT → Int × Int × Int
  | nd v l h => (v, ref st l, ref st h)
  | leaf _ => (0, 0, 0)
structure Fin (st : List DT) : Prop where
  nodup : st.Nodup
  parts : ∀ x ∈ st, ∃ v l h, x = nd v l h ∧ In st l ∧ In st h ∧ x.RO
theorem Fin.nil : Fin [] := ⟨List.nodup_nil, fun _ h => by cases h⟩
theorem Fin.snoc {st : List DT} {v : Nat} {l h : DT} (f : Fin st) (hn : nd v l h ∉ st) (hl : In st l) (hh : In st h) (hr : (nd v l h).RO) : Fin (st ++ [nd v l h]) := by
  refine ⟨?_, ?_⟩
  · rw [List.nodup_append]
    exact ⟨f.nodup, by simp, fun a ha b hb => by simp at hb; subst hb; rintro rfl; exact hn ha⟩
  · intro x hx
    have hp : st <+: st ++ [nd v l h] := List.prefix_append _ _
    rcases List.mem_append.1 hx with hx | hx
    · obtain ⟨w, a, b, e, h1, h2, h3⟩ := f.parts x hx
      exact ⟨w, a, b, e, h1.mono hp, h2.mono hp, h3⟩
    · simp at hx; subst hx; exact ⟨v, l, h, rfl, hl.mono hp, hh.mono hp, hr⟩
def ser : DT → List DT → List DT
  | leaf _, st => st
  | nd v l h, st => if nd v l h ∈ st then st else ser h (ser l st) ++ [nd v l h]
theorem ser_prefix : ∀ (x : DT) (st : List DT), st <+: ser x st
  | leaf _, st => List.prefix_rfl
  | nd v l h, st => by
    simp only [ser]
    split
    · exact List.prefix_rfl
    · exact ((ser_prefix l st).trans (ser_prefix h _)).trans (List.prefix_append _ _)
theorem ser_in : ∀ (x : DT) (st : List DT), In (ser x st) x
  | leaf b, st => .inl ⟨b, rfl⟩
  | nd v l h, st => by
    simp only [ser]
    split
    · next hx => exact .inr hx
    · exact .inr (by simp)
theorem ser_sz : ∀ (x : DT) (st : List DT) (y : DT), y ∈ ser x st → y ∈ st ∨ y.sz ≤ x.sz
  | leaf _, st, y, h => .inl h
  | nd v l h, st, y, hy => by
    simp only [ser] at hy
    split at hy
    · exact .inl hy
    · rcases List.mem_append.1 hy with hy | hy
      · rcases ser_sz h _ y hy with hy | hy
        · rcases ser_sz l _ y hy with hy | hy
          · exact .inl hy
          · exact .inr (by simp only [sz]; omega)
        · exact .inr (by simp only [sz]; omega)
      · simp at hy; subst hy; exact .inr (Nat.le_refl _)
theorem ser_new {v : Nat} {l h : DT} {st : List DT} (hn : nd v l h ∉ st) : nd v l h ∉ ser h (ser l st) := by
  intro hx
  rcases ser_sz h _ _ hx with hx | hx
  · rcases ser_sz l _ _ hx with hx | hx
    · exact hn hx
    · simp only [sz] at hx; omega
  · simp only [sz] at hx; omega
end DT
end Go.AI
end
section
namespace Go.AI
open DT
def rowL (ts : List DT) (x : DT) : List Int := [(row ts x).1, (row ts x).2.1, (row ts x).2.2]
def nodeCells (p : Int × Int × Int) : List AC := [.int .i64 p.1, .int .i64 p.2.1, .int .i64 p.2.2]
structure IdxOk (ts : List DT) (es : List (List Int × Int)) : Prop where
  all : ∀ x ∈ ts, findI (rowL ts x) es = some (ref ts x)
  only : ∀ k n, findI k es = some n → ∃ x ∈ ts, k = rowL ts x
structure DoneOk (ts : List DT) (es : List (List Int × Int)) : Prop where
  ok : ∀ k n, findI k es = some n → ∃ a b c r, In ts a ∧ In ts b ∧ In ts c ∧ In ts r ∧ k = [ref ts a, ref ts b, ref ts c] ∧ n = ref ts r ∧
    (∀ ρ, r.eval ρ = if a.eval ρ then b.eval ρ else c.eval ρ) ∧ ∀ v, v ≤ a.top → v ≤ b.top → v ≤ c.top → v ≤ r.top
structure MgrX (H : AHeap) (m : AC) (F : Nat → Prop) (ts : List DT) (mb ib db : Nat) (Fs : Nat → Prop) (slc : AC) (idx done : List (List Int × Int)) : Prop where
  m_eq : m = .ptr (some (mb, 0))
  own : Own H mb [slc, .map (some ib), .map (some db)]
  sl : OwnS H slc 3 Fs (ts.map fun x => nodeCells (row ts x))
  im : MapI H ib (some 3) idx
  dm : MapI H db (some 3) done
  ne1 : mb ≠ ib
  ne2 : mb ≠ db
  ne3 : ib ≠ db
  d1 : ¬ Fs mb
  d2 : ¬ Fs ib
  d3 : ¬ Fs db
  fin : Fin ts
  iok : IdxOk ts idx
  dok : DoneOk ts done
  fF : ∀ x, F x ↔ x = mb ∨ x = ib ∨ x = db ∨ Fs x
def Mgr (H : AHeap) (m : AC) (F : Nat → Prop) (ts : List DT) : Prop := ∃ mb ib db Fs slc idx done, MgrX H m F ts mb ib db Fs slc idx done
theorem MgrX.keep {S : Nat → Prop} {H H' : AHeap} {m : AC} {F : Nat → Prop} {ts : List DT} {mb ib db : Nat} {Fs : Nat → Prop} {slc : AC} {idx done : List (List Int × Int)} (h : MgrX H m F ts mb ib db Fs slc idx done) (k : Keep S H H') (hd : ∀ x, S x → ¬ F x) :
    MgrX H' m F ts mb ib db Fs slc idx done :=
  ⟨h.m_eq, h.own.keep k (fun hx => hd _ hx ((h.fF _).2 (.inl rfl))), h.sl.keep k (fun x hx hf => hd x hx ((h.fF _).2 (.inr (.inr (.inr hf))))),
   h.im.keep k (fun hx => hd _ hx ((h.fF _).2 (.inr (.inl rfl)))), h.dm.keep k (fun hx => hd _ hx ((h.fF _).2 (.inr (.inr (.inl rfl))))),
   h.ne1, h.ne2, h.ne3, h.d1, h.d2, h.d3, h.fin, h.iok, h.dok, h.fF⟩
theorem Mgr.keep {S : Nat → Prop} {H H' : AHeap} {m : AC} {F : Nat → Prop} {ts : List DT} (h : Mgr H m F ts) (k : Keep S H H') (hd : ∀ x, S x → ¬ F x) : Mgr H' m F ts := by
  obtain ⟨mb, ib, db, Fs, slc, idx, done, h⟩ := h
  exact ⟨mb, ib, db, Fs, slc, idx, done, h.keep k hd⟩
theorem Mgr.kp {H H' : AHeap} {m : AC} {F : Nat → Prop} {ts : List DT} (h : Mgr H m F ts) (k : Kp H H') : Mgr H' m F ts := h.keep k fun _ hx => hx.elim
theorem MgrX.lt {H : AHeap} {m : AC} {F : Nat → Prop} {ts : List DT} {mb ib db : Nat} {Fs : Nat → Prop} {slc : AC} {idx done : List (List Int × Int)} (h : MgrX H m F ts mb ib db Fs slc idx done) : ∀ x, F x → x < H.size := by
  intro x hx
  rcases (h.fF x).1 hx with rfl | rfl | rfl | hx
  · exact h.own.lt
  · exact h.im.lt
  · exact h.dm.lt
  · exact h.sl.lt x hx
theorem Mgr.lt {H : AHeap} {m : AC} {F : Nat → Prop} {ts : List DT} (h : Mgr H m F ts) : ∀ x, F x → x < H.size := by
  obtain ⟨mb, ib, db, Fs, slc, idx, done, h⟩ := h
  exact h.lt
theorem Mgr.fin {H : AHeap} {m : AC} {F : Nat → Prop} {ts : List DT} (h : Mgr H m F ts) : Fin ts := by
  obtain ⟨mb, ib, db, Fs, slc, idx, done, h⟩ := h
  exact h.fin
theorem DT.Fin.ro {ts : List DT} (f : Fin ts) {x : DT} (h : In ts x) : x.RO := by
  rcases h with ⟨b, rfl⟩ | h
  · trivial
  · obtain ⟨_, _, _, rfl, _, _, hr⟩ := f.parts x h; exact hr
theorem In.leaf (ts : List DT) (b : Bool) : In ts (leaf b) := .inl ⟨b, rfl⟩
theorem IdxOk.snoc {ts : List DT} {es : List (List Int × Int)} (f : Fin ts) (h : IdxOk ts es) {v : Nat} {l r : DT} (hn : nd v l r ∉ ts) (hl : In ts l) (hr : In ts r) (hro : (nd v l r).RO) :
    IdxOk (ts ++ [nd v l r]) (setI [(v : Int), ref ts l, ref ts r] (ts.length : Nat) es) := by
  have hp : ts <+: ts ++ [nd v l r] := List.prefix_append _ _
  have hrow : ∀ x ∈ ts, rowL (ts ++ [nd v l r]) x = rowL ts x := by
    intro x hx
    obtain ⟨w, a, b, rfl, h1, h2, _⟩ := f.parts x hx
    simp only [rowL, row, ref_mono h1 hp, ref_mono h2 hp]
  have hnew : rowL (ts ++ [nd v l r]) (nd v l r) = [(v : Int), ref ts l, ref ts r] := by simp only [rowL, row, ref_mono hl hp, ref_mono hr hp]
  have hdif : ∀ x ∈ ts, rowL ts x ≠ [(v : Int), ref ts l, ref ts r] := by
    intro x hx e
    obtain ⟨w, a, b, rfl, h1, h2, _⟩ := f.parts x hx
    simp only [rowL, row, List.cons.injEq, and_true] at e
    obtain ⟨e1, e2, e3⟩ := e
    have := ref_inj h1 hl e2
    have := ref_inj h2 hr e3
    have : w = v := by omega
    subst_vars
    exact hn hx
  refine ⟨?_, ?_⟩
  · intro x hx
    rw [findI_set]
    rcases List.mem_append.1 hx with hx | hx
    · rw [hrow x hx, if_neg (fun e => hdif x hx e.symm), h.all x hx, ref_mono (.inr hx) hp]
    · simp at hx; subst hx
      rw [hnew, if_pos rfl, ref_new hn]
  · intro k n hk
    rw [findI_set] at hk
    split at hk
    · next e => exact ⟨nd v l r, by simp, by rw [hnew, e]⟩
    · obtain ⟨x, hx, e⟩ := h.only k n hk
      exact ⟨x, List.mem_append_left _ hx, by rw [hrow x hx, e]⟩
theorem DoneOk.mono {ts ts' : List DT} {es : List (List Int × Int)} (h : DoneOk ts es) (hp : ts <+: ts') : DoneOk ts' es := by
  refine ⟨fun k n hk => ?_⟩
  obtain ⟨a, b, c, r, h1, h2, h3, h4, h5, h6, h7⟩ := h.ok k n hk
  exact ⟨a, b, c, r, h1.mono hp, h2.mono hp, h3.mono hp, h4.mono hp, by rw [h5, ref_mono h1 hp, ref_mono h2 hp, ref_mono h3 hp], by rw [h6, ref_mono h4 hp], h7⟩
theorem DoneOk.set {ts : List DT} {es : List (List Int × Int)} (h : DoneOk ts es) {a b c r : DT} (h1 : In ts a) (h2 : In ts b) (h3 : In ts c) (h4 : In ts r) (he : ∀ ρ, r.eval ρ = if a.eval ρ then b.eval ρ else c.eval ρ)
    (ht : ∀ v, v ≤ a.top → v ≤ b.top → v ≤ c.top → v ≤ r.top) : DoneOk ts (setI [ref ts a, ref ts b, ref ts c] (ref ts r) es) := by
  refine ⟨fun k n hk => ?_⟩
  rw [findI_set] at hk
  split at hk
  · next e => simp only [Option.some.injEq] at hk; exact ⟨a, b, c, r, h1, h2, h3, h4, e.symm, hk.symm, he, ht⟩
  · exact h.ok k n hk
end Go.AI
end
section
namespace Go.AI
open DT
abbrev NRow := Int × Int × Int
def atR (ts : List DT) (r : Int) : DT := if r = -1 then leaf false else if r = -2 then leaf true else ts[r.toNat]?.getD (leaf false)
def bldStep (ts : List DT) (p : NRow) : List DT := ts ++ [DT.mk p.1.toNat (atR ts p.2.1) (atR ts p.2.2)]
def bld (l : List NRow) : List DT := l.foldl bldStep []
theorem bld_snoc (l : List NRow) (p : NRow) : bld (l ++ [p]) = bldStep (bld l) p := by simp [bld]
theorem bld_len' : ∀ (l : List NRow) (ts : List DT), (l.foldl bldStep ts).length = ts.length + l.length
  | [], ts => by simp
  | p :: l, ts => by rw [List.foldl_cons, bld_len' l, bldStep]; simp; omega
theorem bld_len (l : List NRow) : (bld l).length = l.length := by rw [bld, bld_len']; simp
theorem bld_pre' : ∀ (l : List NRow) (ts : List DT), ts <+: l.foldl bldStep ts
  | [], ts => List.prefix_rfl
  | p :: l, ts => by rw [List.foldl_cons]; exact (List.prefix_append _ _).trans (bld_pre' l _)
theorem bld_take_pre (l : List NRow) (i : Nat) : bld (l.take i) <+: bld l := by
  have e : bld l = (l.drop i).foldl bldStep (bld (l.take i)) := by
    unfold bld
    rw [← List.foldl_append, List.take_append_drop]
  rw [e]
  exact bld_pre' _ _
theorem bld_take_succ {l : List NRow} {i : Nat} {p : NRow} (h : l[i]? = some p) : bld (l.take (i + 1)) = bldStep (bld (l.take i)) p := by
  rw [List.take_add_one, h]
  exact bld_snoc _ _
theorem atR_mono {ts ts' : List DT} (hp : ts <+: ts') {r : Int} (h0 : -2 ≤ r) (h : r < ts.length) : atR ts' r = atR ts r := by
  unfold atR
  split
  · rfl
  split
  · rfl
  obtain ⟨s, rfl⟩ := hp
  rw [List.getElem?_append_left (by omega)]
theorem atR_ref {st : List DT} {x : DT} (h : In st x) : atR st (ref st x) = x := by
  unfold atR
  split
  · next e => exact (ref_false.1 e).symm
  split
  · next e => exact (ref_true.1 e).symm
  · next h1 h2 =>
    have := (ref_lt h).1
    rw [ref_get h (by omega)]; rfl
def NumOk (i : Nat) (p : NRow) : Prop := 0 ≤ p.1 ∧ p.1 < 16 ∧ -2 ≤ p.2.1 ∧ p.2.1 < i ∧ -2 ≤ p.2.2 ∧ p.2.2 < i
def OrdOk (l : List NRow) (p : NRow) : Prop := (∀ q, 0 ≤ p.2.1 → l[p.2.1.toNat]? = some q → p.1 < q.1) ∧ ∀ q, 0 ≤ p.2.2 → l[p.2.2.toNat]? = some q → p.1 < q.1
def RowsOk (l : List NRow) : Prop := ∀ (i : Nat) (p : NRow), l[i]? = some p → NumOk i p ∧ OrdOk l p
theorem bld_at {l : List NRow} {i : Nat} {p : NRow} (hp : l[i]? = some p) (hn : NumOk i p) : (bld l)[i]? = some (DT.mk p.1.toNat (atR (bld l) p.2.1) (atR (bld l) p.2.2)) := by
  have hlt := (List.getElem?_eq_some_iff.1 hp).1
  have hlen : (bld (l.take i)).length = i := by rw [bld_len, List.length_take]; omega
  have e := bld_take_succ hp
  have hpre := bld_take_pre l (i + 1)
  rw [e] at hpre
  obtain ⟨s, hs⟩ := hpre
  have hpre0 := bld_take_pre l i
  unfold NumOk at hn
  rw [atR_mono hpre0 hn.2.2.1 (by rw [hlen]; omega), atR_mono hpre0 hn.2.2.2.2.1 (by rw [hlen]; omega), ← hs]
  unfold bldStep
  rw [List.getElem?_append_left (by simp; omega), List.getElem?_append_right (by omega), hlen]
  simp
theorem bld_ro {l : List NRow} (h : RowsOk l) : ∀ (n i : Nat) (p : NRow), i < n → l[i]? = some p → ∃ x, (bld l)[i]? = some x ∧ x.RO ∧ p.1.toNat ≤ x.top := by
  intro n
  induction n with
  | zero => intro i p hi; omega
  | succ n ih =>
    intro i p hi hp
    obtain ⟨hn, ho1, ho2⟩ := h i p hp
    have hlt := (List.getElem?_eq_some_iff.1 hp).1
    refine ⟨_, bld_at hp hn, ?_⟩
    have part : ∀ r : Int, -2 ≤ r → r < i → (∀ q, 0 ≤ r → l[r.toNat]? = some q → p.1 < q.1) → (atR (bld l) r).RO ∧ p.1.toNat < (atR (bld l) r).top := by
      intro r h1 h2 h3
      unfold NumOk at hn
      unfold atR
      split
      · exact ⟨trivial, by simp only [top]; omega⟩
      split
      · exact ⟨trivial, by simp only [top]; omega⟩
      · have hr : r.toNat < l.length := by omega
        obtain ⟨x, e1, e2, e3⟩ := ih r.toNat l[r.toNat] (by omega) (List.getElem?_eq_getElem hr)
        rw [e1]
        have := h3 l[r.toNat] (by omega) (List.getElem?_eq_getElem hr)
        have hq := (h _ _ (List.getElem?_eq_getElem hr)).1
        unfold NumOk at hq
        exact ⟨e2, by simp only [Option.getD_some]; omega⟩
    have hn' := hn
    unfold NumOk at hn'
    obtain ⟨a1, a2⟩ := part p.2.1 hn'.2.2.1 hn'.2.2.2.1 ho1
    obtain ⟨b1, b2⟩ := part p.2.2 hn'.2.2.2.2.1 hn'.2.2.2.2.2 ho2
    exact ⟨mk_RO (by omega) a2 b2 a1 b1, mk_top a2⟩
theorem atR_ro {l : List NRow} (h : RowsOk l) {r : Int} : (atR (bld l) r).RO := by
  unfold atR
  split
  · trivial
  split
  · trivial
  · cases e : (bld l)[r.toNat]? with
    | none => trivial
    | some x =>
      have hlt := (List.getElem?_eq_some_iff.1 e).1
      rw [bld_len] at hlt
      obtain ⟨y, e1, e2, _⟩ := bld_ro h _ r.toNat l[r.toNat] (Nat.lt_succ_self _) (List.getElem?_eq_getElem hlt)
      rw [e1] at e
      cases e
      exact e2
def Seq (st : List DT) : Prop := Fin st ∧ ∀ (i v : Nat) (l h : DT), st[i]? = some (nd v l h) → In (st.take i) l ∧ In (st.take i) h
theorem Seq.nil : Seq [] := ⟨Fin.nil, fun i v l h e => by simp at e⟩
theorem Seq.snoc {st : List DT} {v : Nat} {l h : DT} (f : Seq st) (hn : nd v l h ∉ st) (hl : In st l) (hh : In st h) (hr : (nd v l h).RO) : Seq (st ++ [nd v l h]) := by
  refine ⟨f.1.snoc hn hl hh hr, fun i w a b e => ?_⟩
  by_cases hi : i < st.length
  · rw [List.getElem?_append_left hi] at e
    rw [List.take_append_of_le_length (by omega)]
    exact f.2 i w a b e
  · have hi' : i = st.length := by
      have := (List.getElem?_eq_some_iff.1 e).1
      simp at this; omega
    subst hi'
    rw [List.getElem?_append_right (Nat.le_refl _)] at e
    simp at e
    obtain ⟨rfl, rfl, rfl⟩ := e
    rw [List.take_append_of_le_length (Nat.le_refl _), List.take_length]
    exact ⟨hl, hh⟩
theorem ser_seq : ∀ (x : DT) (st : List DT), x.RO → Seq st → Seq (ser x st)
  | leaf _, st, _, f => f
  | nd v l h, st, hr, f => by
    simp only [ser]
    split
    · exact f
    · next hn =>
      have f1 := ser_seq l st hr.2.2.2.2.1 f
      have f2 := ser_seq h (ser l st) hr.2.2.2.2.2 f1
      exact f2.snoc (ser_new hn) ((ser_in l st).mono (ser_prefix h _)) (ser_in h _) hr
theorem in_take {st : List DT} {x : DT} (i : Nat) (h : In (st.take i) x) : In st x ∧ ref st x < i := by
  have hp : st.take i <+: st := List.take_prefix _ _
  refine ⟨h.mono hp, ?_⟩
  rw [ref_mono h hp]
  have := (ref_lt h).2
  rw [List.length_take] at this
  omega
theorem seq_rows {st : List DT} (f : Seq st) : RowsOk (st.map (row st)) := by
  intro i p hp
  rw [List.getElem?_map, Option.map_eq_some_iff] at hp
  obtain ⟨x, hx, rfl⟩ := hp
  obtain ⟨v, l, h, rfl, h1, h2, h3⟩ := f.1.parts x (List.mem_of_getElem? hx)
  obtain ⟨i1, i2⟩ := f.2 i v l h hx
  obtain ⟨_, r1⟩ := in_take i i1
  obtain ⟨_, r2⟩ := in_take i i2
  have b1 := (ref_lt h1).1
  have b2 := (ref_lt h2).1
  have hv := h3.1
  refine ⟨⟨?_, ?_, b1, r1, b2, r2⟩, ?_, ?_⟩
  · show (0 : Int) ≤ (v : Int); omega
  · show (v : Int) < 16; omega
  · intro q h0 hq
    have h0' : 0 ≤ ref st l := h0
    have hq' : (st.map (row st))[(ref st l).toNat]? = some q := hq
    rw [List.getElem?_map, ref_get h1 h0'] at hq'
    simp only [Option.map_some, Option.some.injEq] at hq'
    subst hq'
    show (v : Int) < _
    have ht := h3.2.2.1
    cases l with
    | leaf b => cases b <;> simp [ref] at h0'
    | nd w a b => simp only [top] at ht; show (v : Int) < (w : Int); omega
  · intro q h0 hq
    have h0' : 0 ≤ ref st h := h0
    have hq' : (st.map (row st))[(ref st h).toNat]? = some q := hq
    rw [List.getElem?_map, ref_get h2 h0'] at hq'
    simp only [Option.map_some, Option.some.injEq] at hq'
    subst hq'
    show (v : Int) < _
    have ht := h3.2.2.2.1
    cases h with
    | leaf b => cases b <;> simp [ref] at h0'
    | nd w a b => simp only [top] at ht; show (v : Int) < (w : Int); omega
theorem bld_rows {st : List DT} (f : Seq st) : bld (st.map (row st)) = st := by
  have key : ∀ n, n ≤ st.length → bld ((st.map (row st)).take n) = st.take n := by
    intro n
    induction n with
    | zero => intro _; rfl
    | succ n ih =>
      intro hn
      have hx : st[n]? = some st[n] := List.getElem?_eq_getElem (by omega)
      have hp : (st.map (row st))[n]? = some (row st st[n]) := by rw [List.getElem?_map, hx]; rfl
      rw [bld_take_succ hp, ih (by omega)]
      obtain ⟨y, hy⟩ : ∃ y, y = st[n] := ⟨_, rfl⟩
      rw [← hy] at hx ⊢
      obtain ⟨v, l, h, rfl, _, _, h3⟩ := f.1.parts y (List.mem_of_getElem? hx)
      obtain ⟨i1, i2⟩ := f.2 n v l h hx
      have hpre : st.take n <+: st := List.take_prefix _ _
      unfold bldStep
      simp only [row]
      rw [ref_mono i1 hpre, ref_mono i2 hpre, atR_ref i1, atR_ref i2, Int.toNat_natCast, List.take_add_one, hx, DT.mk, if_neg h3.2.1]
      rfl
  have := key st.length (Nat.le_refl _)
  rwa [List.take_of_length_le (by simp), List.take_length] at this
def CanonD (l : List NRow) (r : Int) : Prop := ∃ x : DT, x.RO ∧ l = (ser x []).map (row (ser x [])) ∧ r = ref (ser x []) x
theorem CanonD.of {l : List NRow} {r : Int} (h : CanonD l r) : RowsOk l ∧ -2 ≤ r ∧ r < l.length ∧ (atR (bld l) r).RO ∧ l = (ser (atR (bld l) r) []).map (row (ser (atR (bld l) r) [])) ∧ r = ref (ser (atR (bld l) r) []) (atR (bld l) r) := by
  obtain ⟨x, h1, rfl, rfl⟩ := h
  have f := ser_seq x [] h1 Seq.nil
  have hin := ser_in x []
  have e : atR (bld ((ser x []).map (row (ser x [])))) (ref (ser x []) x) = x := by rw [bld_rows f, atR_ref hin]
  rw [e]
  exact ⟨seq_rows f, (ref_lt hin).1, by rw [List.length_map]; exact (ref_lt hin).2, h1, rfl, rfl⟩
theorem CanonD.mk {l : List NRow} {r : Int} (h : RowsOk l) (h1 : l = (ser (atR (bld l) r) []).map (row (ser (atR (bld l) r) []))) (h2 : r = ref (ser (atR (bld l) r) []) (atR (bld l) r)) : CanonD l r :=
  ⟨_, atR_ro h, h1, h2⟩
end Go.AI
end
section
namespace Go.AI
open DT
end Go.AI
end
section
namespace Go.AI
open DT
end Go.AI
end
section
namespace Go.AI
open Go.Lib
theorem asc_eq : ∀ {l m : List Int}, l.Pairwise (· < ·) → m.Pairwise (· < ·) → (∀ x, x ∈ l ↔ x ∈ m) → l = m
  | [], [], _, _, _ => rfl
  | [], b :: m, _, _, h => absurd ((h b).2 (List.mem_cons_self ..)) (List.not_mem_nil)
  | a :: l, [], _, _, h => absurd ((h a).1 (List.mem_cons_self ..)) (List.not_mem_nil)
  | a :: l, b :: m, hl, hm, h => by
    have hl' := List.pairwise_cons.1 hl
    have hm' := List.pairwise_cons.1 hm
    have e : a = b := by
      have h1 := (h a).1 (List.mem_cons_self ..)
      have h2 := (h b).2 (List.mem_cons_self ..)
      rcases List.mem_cons.1 h1 with h1 | h1
      · exact h1
      rcases List.mem_cons.1 h2 with h2 | h2
      · exact h2.symm
      have := hm'.1 a h1
      have := hl'.1 b h2
      omega
    subst e
    rw [asc_eq hl'.2 hm'.2 fun x => ?_]
    constructor
    · intro hx
      rcases List.mem_cons.1 ((h x).1 (List.mem_cons_of_mem _ hx)) with e | e
      · have := hl'.1 x hx; omega
      · exact e
    · intro hx
      rcases List.mem_cons.1 ((h x).2 (List.mem_cons_of_mem _ hx)) with e | e
      · have := hm'.1 x hx; omega
      · exact e
theorem compact_asc {d : Array Int} (hs : ∀ i j, i ≤ j → j < d.size → d[i]! ≤ d[j]!) : ∀ m, m ≤ d.size → (compactUpTo d m).Pairwise (· < ·) ∧ ∀ x, x ∈ compactUpTo d m ↔ ∃ j, j < m ∧ d[j]! = x
  | 0, _ => by
    have e : compactUpTo d 0 = [] := rfl
    rw [e]
    exact ⟨List.Pairwise.nil, fun x => ⟨fun h => (List.not_mem_nil h).elim, fun ⟨j, h, _⟩ => by omega⟩⟩
  | m + 1, hm => by
    obtain ⟨h1, h2⟩ := compact_asc hs m (by omega)
    rw [compactUpTo_succ]
    by_cases hk : keeps d m = true
    · rw [if_pos hk]
      refine ⟨List.pairwise_append.2 ⟨h1, List.pairwise_singleton _ _, fun a ha b hb => ?_⟩, fun x => ?_⟩
      · obtain rfl := List.mem_singleton.1 hb
        obtain ⟨j, hj, rfl⟩ := (h2 a).1 ha
        have e1 := hs j (m - 1) (by omega) (by omega)
        have e2 := hs (m - 1) m (by omega) (by omega)
        have : d[m]! ≠ d[m - 1]! := fun e => by
          rw [keeps_neg (by omega) e] at hk; cases hk
        omega
      · rw [List.mem_append, h2, List.mem_singleton]
        constructor
        · rintro (⟨j, hj, e⟩ | e)
          · exact ⟨j, by omega, e⟩
          · exact ⟨m, by omega, e.symm⟩
        · rintro ⟨j, hj, e⟩
          by_cases hjm : j = m
          · subst hjm; exact .inr e.symm
          · exact .inl ⟨j, by omega, e⟩
    · rw [if_neg hk, List.append_nil]
      have hm0 : 0 < m := by
        rcases Nat.eq_zero_or_pos m with e | e
        · subst e; exact absurd (keeps_lt_one d 0 (by omega)) hk
        · exact e
      have he : d[m]! = d[m - 1]! := Decidable.by_contra fun h => hk (keeps_pos h)
      refine ⟨h1, fun x => ?_⟩
      rw [h2]
      constructor
      · rintro ⟨j, hj, e⟩
        exact ⟨j, by omega, e⟩
      · rintro ⟨j, hj, e⟩
        by_cases hjm : j = m
        · subst hjm; exact ⟨j - 1, by omega, by rw [← he, e]⟩
        · exact ⟨j, by omega, e⟩
theorem compact_sort (l : List Int) : (compact (l.mergeSort fun x y => decide (x ≤ y))).Pairwise (· < ·) ∧ ∀ x, x ∈ compact (l.mergeSort fun x y => decide (x ≤ y)) ↔ x ∈ l := by
  obtain ⟨z, hz⟩ : ∃ z, z = l.mergeSort fun x y => decide (x ≤ y) := ⟨_, rfl⟩
  have hp : z.Pairwise fun x y => decide (x ≤ y) = true := by
    rw [hz]
    refine List.pairwise_mergeSort (fun a b c h1 h2 => ?_) (fun a b => ?_) l
    · simp only [decide_eq_true_eq] at h1 h2 ⊢; omega
    · simp only [Bool.or_eq_true, decide_eq_true_eq]; omega
  have hmem : ∀ x, x ∈ z ↔ x ∈ l := fun x => by rw [hz]; exact List.mem_mergeSort
  rw [← hz]
  have get : ∀ j, j < z.length → z.toArray[j]! = z[j]! := fun j hj => by simp
  have hs : ∀ i j, i ≤ j → j < z.toArray.size → z.toArray[i]! ≤ z.toArray[j]! := by
    intro i j hij hj
    have hj' : j < z.length := by simpa using hj
    rw [get i (by omega), get j hj']
    by_cases e : i = j
    · subst e; omega
    · have := List.pairwise_iff_getElem.1 hp i j (by omega) hj' (by omega)
      simp only [decide_eq_true_eq] at this
      rw [getElem!_pos z i (by omega), getElem!_pos z j hj']
      exact this
  obtain ⟨h1, h2⟩ := compact_asc hs z.length (by simp)
  refine ⟨h1, fun x => ?_⟩
  rw [← hmem x]
  refine (h2 x).trans ⟨?_, fun h => ?_⟩
  · rintro ⟨j, hj, rfl⟩
    rw [get j hj, getElem!_pos z j hj]
    exact List.getElem_mem _
  · obtain ⟨j, hj, e⟩ := List.getElem_of_mem h
    exact ⟨j, hj, by rw [get j hj, getElem!_pos z j hj, e]⟩
end Go.AI
end
section
namespace Go.AI
def updAll (t : Env) : List (Tmp × AV) → Env
  | [] => t
  | (p, a) :: r => updAll (upd t p a) r
theorem setAll_TR : ∀ {l : List (Tmp × AV)} {T : List AV} {t : Env}, TR T t → (∀ q ∈ l, q.1 < T.length) → TR (setAll T l) (updAll t l)
  | [], T, t, h, _ => h
  | (p, a) :: l, T, t, h, hl => by
    simp only [setAll, updAll]
    exact setAll_TR (h.set (hl _ (List.mem_cons_self ..)) a) fun q hq => by rw [List.length_set]; exact hl q (List.mem_cons_of_mem _ hq)
theorem setAll_len : ∀ (l : List (Tmp × AV)) (T : List AV), (setAll T l).length = T.length
  | [], _ => rfl
  | (p, a) :: l, T => by simp only [setAll]; rw [setAll_len l, List.length_set]
theorem roundE_of {P : Program} [BaseC P] {l : Nat} {args : List AV} {H : AHeap} {st0 : Nat} {pend0 : Ex} {T : List AV} {ps : Array Tmp} {ca cb : Code} {tblA tblB : List (Nat × List (Nat × Nat))} {s1 s3 : St} {e : Ex} {p1 : Ex} {T1 : List AV} {ps1 : Array Tmp} {a1 b1 : Code} {st4 : Nat} {p4 : Ex} {T4 : List AV} {ps4 : Array Tmp} {a4 b4 : Code}
    (hB : BaseC.has P (P.funcs.size + l) = false) (hl : H.get l = some (.loop st0 pend0 T ps ca cb)) (hlen : args.length = ps.size) (h1 : slimOk tblA ca = true) (e1 : execS P (callE P) (slim tblA ca) (setAll T (ps.toList.zip args), H) = some (.normal, s1)) (g1 : s1.2.get l = some (.loop 0 p1 T1 ps1 a1 b1))
    (h2 : slimOk tblB cb = true) (e2 : execS P (callE P) (slim tblB cb) (s1.1, s1.2.set l (.loop 1 p1 T1 ps1 a1 b1)) = some (e, s3)) (g3 : s3.2.get l = some (.loop st4 p4 T4 ps4 a4 b4)) :
    callE P (P.funcs.size + l) args H = some (.one (.bool (decide (e = .normal))), s3.2.set l (.loop (if e = .normal then 0 else 2) e T4 ps4 a4 b4)) := by
  obtain ⟨N1, hN1⟩ := execS_late h1 e1
  obtain ⟨N2, hN2⟩ := execS_late h2 e2
  refine callE_some.2 ⟨max N1 N2 + 1, ?_⟩
  unfold callA
  rw [hB, if_neg (by simp), Array.getElem?_eq_none (by omega)]
  simp only
  rw [if_pos (by omega), show P.funcs.size + l - P.funcs.size = l from by omega]
  unfold roundA
  rw [hl]
  simp only
  rw [if_pos hlen, hN1 (max N1 N2) (by omega)]
  simp only
  rw [g1]
  simp only
  rw [hN2 (max N1 N2) (by omega)]
  simp only
  rw [g3]
theorem round_wp {P : Program} [BaseC P] {eqs : List (TypeId × Nat)} (hf : Facts P eqs) {l N : Nat} {args : List AV} {H : AHeap} {st0 : Nat} {pend0 : Ex} {T : List AV} {t : Env} {ps : Array Tmp} {ca cb : Code} {ra rb : RC} (tblA tblB : List (Nat × List (Nat × Nat))) {K : AV → AHeap → Prop}
    (hB : BaseC.has P (P.funcs.size + l) = false) (hl : H.get l = some (.loop st0 pend0 T ps ca cb)) (hT : TR T t) (hN : T.length = N) (hps : ∀ p ∈ ps.toList, p < N) (hlen : args.length = ps.size) (h1 : slimOk tblA ca = true) (h2 : resC P eqs N (slim tblA ca) = some ra) (h3 : slimOk tblB cb = true) (h4 : resC P eqs N (slim tblB cb) = some rb)
    (k : wpC P ra (updAll t (ps.toList.zip args)) H fun e t1 H1 => e = .normal ∧ ∃ p1 T1 ps1 a1 b1, H1.get l = some (.loop 0 p1 T1 ps1 a1 b1) ∧ wpC P rb t1 (H1.set l (.loop 1 p1 T1 ps1 a1 b1)) fun e2 _ H2 => ∃ st4 p4 T4 ps4 a4 b4, H2.get l = some (.loop st4 p4 T4 ps4 a4 b4) ∧ K (.one (.bool (decide (e2 = .normal)))) (H2.set l (.loop (if e2 = .normal then 0 else 2) e2 T4 ps4 a4 b4))) :
    Run P (P.funcs.size + l) args H K := by
  have hT1 := setAll_TR hT (l := ps.toList.zip args) fun q hq => by rw [hN]; exact hps _ (List.of_mem_zip hq).1
  obtain ⟨e, tl', t', H', e1, a1, a2, rfl, p1, T1, ps1, ca1, cb1, g1, k2⟩ := wpC_sound hf hT1 (by rw [setAll_len, hN]) h2 k
  obtain ⟨e2, tl2, t2, H2, f1, b1, b2, st4, p4, T4, ps4, a4, b4, g4, hK⟩ := wpC_sound hf a1 a2 h4 k2
  exact ⟨_, _, roundE_of hB hl hlen h1 e1 g1 h3 f1 g4, hK⟩
structure LS where
  (T : List AV) (ps : Array Tmp) (a b : Code)
def LoopIs (H : AHeap) (l st : Nat) (e : Ex) (s : LS) : Prop := H.get l = some (.loop st e s.T s.ps s.a s.b)
theorem LoopIs.keep {S : Nat → Prop} {H H' : AHeap} {l st : Nat} {e : Ex} {s : LS} (h : LoopIs H l st e s) (k : Keep S H H') (hn : ¬ S l) : LoopIs H' l st e s := k.getS h hn
theorem LoopIs.kp {H H' : AHeap} {l st : Nat} {e : Ex} {s : LS} (h : LoopIs H l st e s) (k : Kp H H') : LoopIs H' l st e s := h.keep k id
theorem LoopIs.lt {H : AHeap} {l st : Nat} {e : Ex} {s : LS} (h : LoopIs H l st e s) : l < H.size := AHeap.get_lt h
def YieldT (P : Program) [BaseC P] (tys : List CT) (mk : Tup tys → List AV) (s : LS) (l : Nat) (R : Tup tys → (Ex → AHeap → Prop) → AHeap → Prop) : Prop :=
  ∀ (x : Tup tys) (e0 : Ex) (H : AHeap) (K : Bool → AHeap → Prop), LoopIs H l 0 e0 s →
    (∀ H1, Keep (fun y => y = l) H H1 → H1.size = H.size → LoopIs H1 l 1 e0 s → R x (fun e H2 => ∃ st e4, LoopIs H2 l st e4 s ∧ ∀ H3, Keep (fun y => y = l) H2 H3 → H3.size = H2.size → LoopIs H3 l (if e = .normal then 0 else 2) e s → K (decide (e = .normal)) H3) H1) →
    RunT P [(false, [.bool])] (P.funcs.size + l) (mk x) H fun H' b => K b H'
def RangeT (P : Program) [BaseC P] (tys : List CT) (mk : Tup tys → List AV) (c : AC) (H : AHeap) (R : Tup tys → (Ex → AHeap → Prop) → AHeap → Prop) (Kr : Ex → AHeap → Prop) : Prop :=
  ∃ g first caps, c = .fn g first caps ∧ g < P.funcs.size ∧ ∀ s : LS, YieldT P tys mk s H.size R → ∀ H0, Kp H H0 → H0.size = H.size + 1 → LoopIs H0 H.size 0 .normal s →
    Run P g (first.map (fun a => .one (.ptr (some a))) ++ [.one (.yield H.size)] ++ caps.map (fun a => .one (.ptr (some a)))) H0 fun _ H' => ∃ st e, LoopIs H' H.size st e s ∧ st ≠ 1 ∧ ∀ H3, Keep (fun y => y = H.size) H' H3 → H3.size = H'.size → Kr e H3
theorem Kp.pushLoop (H : AHeap) (st : Nat) (e : Ex) (T : List AV) (ps : Array Tmp) (a b : Code) : Kp H (H.push (.loop st e T ps a b)) := by
  refine ⟨by simp, fun b hb _ => by rw [AHeap.get_push, if_neg (by omega)], fun b hb _ => rfl, ⟨fun hw x e' g st ro cs' hx => ?_, fun hw x e' g st ro cs' hx => ?_⟩, fun x e' g st ro cs' hx hg _ => ?_⟩
  · rw [AHeap.get_push] at hx
    split at hx
    · cases hx
    · exact hw _ _ _ _ _ _ hx
  · refine hw x e' g st ro cs' ?_
    have := AHeap.get_lt hx
    rw [AHeap.get_push, if_neg (by omega)]
    exact hx
  · rw [AHeap.get_push] at hx
    split at hx
    · cases hx
    · exact ⟨_, _, _, _, hx⟩
theorem c_range {P : Program} [BaseC P] {eqs : List (TypeId × Nat)} (hf : Facts P eqs) (hB : ∀ f, P.funcs.size ≤ f → BaseC.has P f = false) {tys : List CT} {mk : Tup tys → List AV} {c : AC} {t : Env} {N : Nat} {ps : Array Tmp} {ca cb : Code} {ra rb : RC} (tblA tblB : List (Nat × List (Nat × Nat))) {H : AHeap} {R : Tup tys → (Ex → AHeap → Prop) → AHeap → Prop} {Kr : Ex → AHeap → Prop} {K : Ex → Env → AHeap → Prop} {f : RV}
    (hev : evR t f = .one c) (hps : ∀ p ∈ ps.toList, p < N) (hlen : ∀ x, (mk x).length = ps.size) (h1 : slimOk tblA ca = true) (h2 : resC P eqs N (slim tblA ca) = some ra) (h3 : slimOk tblB cb = true) (h4 : resC P eqs N (slim tblB cb) = some rb)
    (hA : ∀ x H (J : Env → AHeap → Prop), J (updAll t (ps.toList.zip (mk x))) H → ∃ t1, (∀ J : Env → AHeap → Prop, J t1 H → wpC P ra (updAll t (ps.toList.zip (mk x))) H fun e t2 H2 => e = .normal ∧ J t2 H2) ∧ ∀ (KR : Ex → AHeap → Prop) (Kt : Ex → Env → AHeap → Prop) H, (∀ e t H, KR e H → Kt e t H) → R x KR H → wpC P rb t1 H Kt)
    (hK : ∀ e H, Kr e H → K e t H) : RangeT P tys mk c H R Kr → wpC P (.rangeF f N ps ca cb) t H K := by
  rintro ⟨g, first, caps, rfl, hg, q⟩
  simp only [wpC, hev]
  refine ⟨g, first, caps, rfl, hg, fun T hN hT => ?_⟩
  have hget : LoopIs (H.push (.loop 0 .normal T ps ca cb)) H.size 0 .normal ⟨T, ps, ca, cb⟩ := by
    unfold LoopIs
    rw [AHeap.get_push, if_pos rfl]
  have hY : YieldT P tys mk ⟨T, ps, ca, cb⟩ H.size R := by
    intro x e0 H1 K1 hl hr
    have hl' : H1.get H.size = some (.loop 0 e0 T ps ca cb) := hl
    refine round_wp hf tblA tblB (hB _ (by omega)) hl' hT hN hps (hlen x) h1 h2 h3 h4 ?_
    obtain ⟨t1, a1, a2⟩ := hA x H1 (fun _ _ => True) trivial
    refine a1 _ ⟨_, _, _, _, _, hl', ?_⟩
    have k1 : Keep (fun y => y = H.size) H1 (H1.set H.size (.loop 1 e0 T ps ca cb)) := Keep.set hl' trivial
    have hq := hr _ k1 rfl (by unfold LoopIs; rw [AHeap.get_set, if_pos ⟨rfl, AHeap.get_lt hl'⟩])
    refine a2 _ _ _ ?_ hq
    rintro e2 t2 H2 ⟨st, e4, hl2, hk⟩
    have hl2' : H2.get H.size = some (.loop st e4 T ps ca cb) := hl2
    refine ⟨_, _, _, _, _, _, hl2', ?_⟩
    refine ⟨(decide (e2 = .normal), ()), rfl, hk _ (Keep.set hl2' trivial) rfl ?_⟩
    unfold LoopIs
    rw [AHeap.get_set, if_pos ⟨rfl, AHeap.get_lt hl2'⟩]
  obtain ⟨v, H', hrun, st, e, hl, hst, hk⟩ := q ⟨T, ps, ca, cb⟩ hY _ (Kp.pushLoop _ _ _ _ _ _ _) (by simp) hget
  have hl' : H'.get H.size = some (.loop st e T ps ca cb) := hl
  exact ⟨v, H', hrun, st, e, _, _, _, _, hl', hst, hK _ _ (hk _ (Keep.set hl' trivial) rfl)⟩
end Go.AI
end
section
namespace Go.Proofs.YtkpjcnlljdccjaaGreat
open Go.AI Go.Lib
def sortI (l : List Int) : List Int := l.mergeSort fun x y => decide (x ≤ y)
theorem Sort_o {s : AC} {F : Nat → Prop} {l : List Int} {H : AHeap} (h : OwnS H s 1 F (iRows l)) (hw : GW H) (hl : l.length < 4611686018427387904) :
    Fn.slices_Sort_int_int s H fun H' => OwnS H' s 1 F (iRows (sortI l)) ∧ Keep F H H' := by
  unfold Fn.slices_Sort_int_int
  rcases h.turn (l' := sortI l) hw (List.length_mergeSort _) with ⟨rfl, rfl⟩ | ⟨b, cap, H', rfl, h1, h2, h3, h4, _⟩
  · exact runT_told (v := .tup []) (H' := H) rfl rfl () rfl ⟨by simpa [sortI] using h, Keep.refl _ _⟩
  · by_cases h0 : l.length = 0
    · have hl0 := List.eq_nil_of_length_eq_zero h0
      subst hl0
      exact runT_told (v := .tup []) (H' := H) rfl rfl () rfl ⟨by simpa [sortI] using h, Keep.refl _ _⟩
    · refine runT_told (v := .tup []) (H' := H') rfl ?_ () rfl ⟨h3, h4⟩
      show sortB H [.one (.sl (some (b, 0)) 1 l.length cap)] = _
      simp only [sortB, if_neg h0, if_neg (show ¬ l.length ≥ 4611686018427387904 by omega), h1, Option.bind_some, intsOf_map]
      show (H.store (b, 0) ((sortI l).map (AC.int .i64))).map _ = _
      rw [h2]
      rfl
theorem slr_take {H : AHeap} {b n m : Nat} {cap : Option Nat} {rows : List (List AC)} (h : SlR H (.sl (some (b, 0)) 1 n cap) 1 rows) (hm : m ≤ n) : SlR H (.sl (some (b, 0)) 1 m cap) 1 (rows.take m) := by
  obtain ⟨a, z, cap', e, hr⟩ := h.ex
  cases e
  refine ⟨_, 1, cap, by rw [List.length_take, Nat.min_eq_left hm], fun i r hi => ?_⟩
  rw [List.getElem?_take] at hi
  split at hi
  · obtain ⟨_, b', o', e, hl⟩ := hr i r hi
    exact ⟨rfl, b', o', e, hl⟩
  · cases hi
theorem Compact_o {s : AC} {F : Nat → Prop} {l : List Int} {H : AHeap} (h : OwnS H s 1 F (iRows l)) (hw : GW H) (hl : l.length < 4611686018427387904) :
    Fn.slices_Compact_int_int s H fun H' q => SlR H' q 1 (iRows (compact l)) ∧ (∀ b o z m cap, q = .sl (some (b, o)) z m cap → F b) ∧ Keep F H H' := by
  have hcl := compact_length_le l
  unfold Fn.slices_Compact_int_int
  rcases h.turn (l' := compact l ++ List.replicate (l.length - (compact l).length) 0) hw (by rw [List.length_append, List.length_replicate]; omega) with ⟨rfl, rfl⟩ | ⟨b, cap, H', rfl, h1, h2, h3, h4, _⟩
  · exact runT_told (v := .one (.sl none 0 0 (some 0))) (H' := H) rfl rfl (AC.sl none 0 0 (some 0), ()) rfl ⟨h.slr, fun b o z m cap e => (by cases e), Keep.refl _ _⟩
  · have hF : F b := by
      rcases h.ex with ⟨e, _⟩ | ⟨b', _, _, _, _, e, _, _, _, h5, _⟩
      · cases e
      · have e2 : b = b' := congrArg (fun c => match c with | AC.sl (some p) _ _ _ => p.1 | _ => 0) e
        rw [e2]; exact h5
    by_cases h0 : l.length = 0
    · have hl0 := List.eq_nil_of_length_eq_zero h0
      subst hl0
      exact runT_told (v := .one (.sl (some (b, 0)) 1 0 cap)) (H' := H) rfl rfl (AC.sl (some (b, 0)) 1 0 cap, ()) rfl ⟨h.slr, fun b' o z m cap' e => (by cases e; exact hF), Keep.refl _ _⟩
    · refine runT_told (v := .one (.sl (some (b, 0)) 1 (compact l).length cap)) (H' := H') rfl ?_ (AC.sl (some (b, 0)) 1 (compact l).length cap, ()) rfl ⟨?_, fun b' o z m cap' e => (by cases e; exact hF), h4⟩
      · show compactB H [.one (.sl (some (b, 0)) 1 l.length cap)] = _
        simp only [compactB, if_neg h0, if_neg (show ¬ l.length ≥ 4611686018427387904 by omega), h1, Option.bind_some, intsOf_map, h2, Option.map_some]
      · have := slr_take h3.slr hcl
        have e : (iRows (compact l ++ List.replicate (l.length - (compact l).length) 0)).take (compact l).length = iRows (compact l) := by
          unfold iRows
          rw [List.map_append, List.take_append_of_le_length (by rw [List.length_map]; exact Nat.le_refl _), List.take_of_length_le (by rw [List.length_map]; exact Nat.le_refl _)]
        rwa [e] at this
noncomputable def apR : Array Tmp × Code × Code := match Tryz.f105.body with
  | some (.seq _ (.seq (.seq _ (.block _ (.rangeFunc _ ps a b))) _)) => (ps, a, b)
  | _ => (#[], .skip, .skip)
noncomputable def ap.ca : RC := .ops [.put 5 (.mov (.tm 7))]
noncomputable def ap.cb : RC := .block 1 (.ops [.put 8 (.ld false [.ac] (.tm 2)), .put 9 (.mov (.tm 5)), .put 10 (.blds 3 1 1 [(.int .i64 0)] [(0, 1, (.tm 9))]), .put 11 (.app 3 1 8 (.tm 8) (.tm 10)), .run (.st 1 (.tm 2) (.tm 11))])
noncomputable def ap.c : RC := .seq (.ops [.put 2 (.box 28 (.tm 0)), .put 4 (.mov (.ct (.one (.sl none 0 0 (some 0)))))]) (.seq (.seq (.ops [.put 6 (.mov (.tm 1))]) (.block 0 (.rangeF (.tm 6) 13 apR.1 apR.2.1 apR.2.2))) (.seq (.ops [.put 12 (.ld false [.ac] (.tm 2)), .put 4 (.mov (.tm 12))]) .ret))
theorem ap.slimOk : AI.slimOk [] (Tryz.f105.body.getD .skip) = true := by kernel_rfl
theorem ap.resC : AI.resC Tryz.prog aggs Tryz.f105.ntmps (slim [] (Tryz.f105.body.getD .skip)) = some ap.c := by kernel_rfl
theorem ap.resR : AI.resR Tryz.prog Tryz.f105.results.toList = some [.tm 4] := by kernel_rfl
theorem ap.bodyEq : Tryz.f105.body = some (Tryz.f105.body.getD .skip) := by kernel_rfl
theorem ap.aOk : AI.slimOk [] apR.2.1 = true := by kernel_rfl
theorem ap.aRes : AI.resC Tryz.prog aggs 13 (slim [] apR.2.1) = some ap.ca := by kernel_rfl
theorem ap.bOk : AI.slimOk [] apR.2.2 = true := by kernel_rfl
theorem ap.bRes : AI.resC Tryz.prog aggs 13 (slim [] apR.2.2) = some ap.cb := by kernel_rfl
theorem ap.ps : apR.1 = #[7] := by kernel_rfl
theorem size_tryz : Tryz.prog.funcs.size = 194 := by kernel_rfl
theorem told_none (f : Nat) (h : Tryz.prog.funcs.size ≤ f) : BaseC.has Tryz.prog f = false := by
  rw [size_tryz] at h
  show (Nat.beq f 93 || Nat.beq f 59 || Nat.beq f 10) = false
  have key : ∀ n, n < 194 → Nat.beq f n = false := fun n hn => by
    cases hb : Nat.beq f n with
    | false => rfl
    | true => have := Nat.eq_of_beq_eq_true hb; omega
  rw [key 93 (by omega), key 59 (by omega), key 10 (by omega)]
  rfl
def ap.R (p : AC) (x : Tup [.int .i64]) (KR : Ex → AHeap → Prop) (H : AHeap) : Prop :=
  Ld [.ac] H p fun (v_1 : AC) =>
  NewS 3 1 1 [(.int .i64 x.1)] H fun p_2 H_3 =>
  App 3 1 8 v_1 p_2 H_3 fun s_4 H_5 =>
  Sto H_5 p [s_4] fun H_6 =>
  KR .normal H_6
def ap.W (a0 a1 : AC) (H : AHeap) (Q : AHeap → AC → Prop) : Prop :=
  New 28 [a0] H fun p_1 H_2 =>
  RangeT Tryz.prog [.int .i64] (fun x => [.one (.int .i64 x.1)]) a1 H_2 (ap.R p_1) fun e H_3 =>
  e = .normal ∧ Ld [.ac] H_3 p_1 fun (v_4 : AC) =>
  Q H_3 v_4
theorem ap.rnd {p_1 : AC} {t : Env} (h2 : t 2 = .one p_1) (x : Tup [.int .i64]) (KR : Ex → AHeap → Prop) (Kt : Ex → Env → AHeap → Prop) (H : AHeap) (hK : ∀ e t H, KR e H → Kt e t H) :
    ap.R p_1 x KR H → wpC Tryz.prog ap.cb (upd (upd t 7 (.one (.int .i64 x.1))) 5 (.one (.int .i64 x.1))) H Kt := by
  refine c_blk (c_ops (s_cons (w_put (o_ld1 h2 fun v_1 => ?_))))
  refine s_cons (w_put (o_mov rfl (s_cons (w_put (o_blds rfl fun p_2 H_3 => ?_)))))
  refine s_cons (w_put (o_app rfl rfl fun s_4 H_5 => ?_))
  exact s_cons (w_run (o_st h2 rfl rfl fun H_6 => s_nil (k_blk (hK _ _ _))))
theorem ap.rng {p_1 a1 : AC} {t : Env} {H : AHeap} {K : Ex → Env → AHeap → Prop} {Kr : Ex → AHeap → Prop} (h2 : t 2 = .one p_1) (h6 : t 6 = .one a1) (hK : ∀ e H, Kr e H → K e t H) :
    RangeT Tryz.prog [.int .i64] (fun x => [.one (.int .i64 x.1)]) a1 H (ap.R p_1) Kr → wpC Tryz.prog (.rangeF (.tm 6) 13 apR.1 apR.2.1 apR.2.2) t H K :=
  c_range aggs_ok told_none [] [] h6 (by rw [ap.ps]; intro p hp; simp at hp; rw [hp]; decide) (fun x => by rw [ap.ps]; rfl) ap.aOk ap.aRes ap.bOk ap.bRes
    (by
      rw [ap.ps]
      intro x H3 J _
      exact ⟨upd (upd t 7 (.one (.int .i64 x.1))) 5 (.one (.int .i64 x.1)), fun J hJ => c_ops (s_cons (w_put (o_mov rfl (s_nil fun h => ⟨rfl, h⟩)))) hJ, ap.rnd h2 x⟩)
    hK
theorem ap.ok {a0 a1 : AC} {H : AHeap} (Q : AHeap → AC → Prop) : ap.W a0 a1 H Q → wpF Tryz.prog ap.c [.tm 4] (envOf [(.one a0), (.one a1)]) H (fun v H => ∃ xs : Tup (flat [(false, [.ac])]), v = joinR (splitP [(false, [.ac])] (cellsOf (flat [(false, [.ac])]) xs)) ∧ app (flat [(false, [.ac])]) (Q H) xs) := by
  refine c_seq (c_ops (s_cons (w_put (o_box rfl fun p_1 H_2 => ?_))))
  refine s_cons (w_put (o_mov rfl (s_nil (k_seq ?_))))
  refine c_seq (c_seq (c_ops (s_cons (w_put (o_mov rfl (s_nil (k_seq ?_)))))))
  refine c_blk (ap.rng rfl rfl ?_)
  rintro e H3 ⟨rfl, h⟩
  refine k_blk (k_seq ?_) h
  refine c_seq (c_ops (s_cons (w_put (o_ld1 rfl fun v_4 => ?_))))
  exact s_cons (w_put (o_mov rfl (s_nil (k_seq (c_ret (k_topR (r_one rfl (r_nil fun h => ⟨(v_4, ()), rfl, h⟩))))))))
theorem ap.run {a0 a1 : AC} {H : AHeap} {Q : AHeap → AC → Prop} (h : ap.W a0 a1 H Q) : RunT Tryz.prog [(false, [.ac])] 105 [(.one a0), (.one a1)] H Q := by
  unfold RunT
  exact run_of aggs_ok [] rfl Tryz.func105 ap.bodyEq ap.slimOk ap.resC ap.resR (Nat.le_of_ble_eq_true (by kernel_rfl)) (ap.ok Q h)
theorem lt94 : 94 < Tryz.prog.funcs.size := (Array.getElem?_eq_some_iff.1 Tryz.func94).1
theorem append_c {bx : Nat} {s : AC} {l : List Int} {H : AHeap} (hb : Own H bx [s]) (hs : SlR H s 1 (iRows l)) (hl : l.length < 4611686018427387904) (hl2 : l.length * 8 + 8 ≤ 140737488355328) :
    RunT Tryz.prog [(false, [.ac])] 105 [(.one (.sl none 0 0 (some 0))), (.one (.fn 94 [] [(bx, 0)]))] H fun H' q => (∃ F, OwnS H' q 1 F (iRows l) ∧ ∀ y, F y → H.size ≤ y) ∧ Kp H H' := by
  have hll := iRows_len l
  refine ap.run ?_
  unfold ap.W
  refine New.own fun b1 H1 hb1 hs1 o1 k1 => ?_
  refine ⟨94, [], [(bx, 0)], rfl, lt94, fun sl hY H0 k0 hs0 hl0 => ?_⟩
  have kk0 := k1.trans k0
  suffices hrun : Fn.Z13 (.yield H1.size) (.ptr (some (bx, 0))) H0 fun H' => ∃ st e, LoopIs H' H1.size st e sl ∧ st ≠ 1 ∧ ∀ H3, Keep (fun y => y = H1.size) H' H3 → H3.size = H'.size → (e = .normal ∧ Ld [.ac] H3 (.ptr (some (b1, 0))) fun (v : AC) => (∃ F, OwnS H3 v 1 F (iRows l) ∧ ∀ y, F y → H.size ≤ y) ∧ Kp H H3) by
    refine Run.mono ?_ hrun
    rintro v H' ⟨_, _, h⟩
    exact h
  refine Z13.run ?_
  unfold Z13.W
  refine Ld.oc (hb.kp kk0) rfl (LenS.of (hs.kp kk0) ?_)
  rw [hll]
  unfold Z13.l3
  refine LoopT.rule (fun m s0 H2 => ∃ (i : Nat) (out : AC) (F : Nat → Prop), i ≤ l.length ∧ m = l.length - i ∧ s0 = (.yield H1.size, s, (l.length : Int), (i : Int), ()) ∧ Kp H H2 ∧ LoopIs H2 H1.size 0 .normal sl ∧ Own H2 b1 [out] ∧ OwnS H2 out 1 F (iRows (l.take i)) ∧ ∀ y, F y → H1.size < y) l.length
    ⟨0, _, fun _ => False, by omega, by omega, rfl, kk0, hl0, o1.kp k0, by simpa [iRows] using OwnS.nil H0 1, fun y h => h.elim⟩ ?_
  rintro m s0 H2 back ⟨i, out, F, hi, rfl, rfl, k2, hlp, ob, ho, hF⟩ hback
  simp only [Z13.b3]
  refine CondB.dec (fun hlt => ?_) fun hge => ?_
  · have hi' : i < l.length := by omega
    obtain ⟨v, hv⟩ : ∃ b, l[i]? = some b := ⟨_, List.getElem?_eq_getElem hi'⟩
    refine IA.of (r := [AC.int .i64 v]) (hs.kp k2) (by omega) (by rw [Int.toNat_natCast]; unfold iRows; rw [List.getElem?_map, hv]; rfl) fun b o hld => Ld.a1 hld v rfl rfl ?_
    refine CVT.yield (hY (v, ()) .normal H2 _ hlp fun H3 k3 hs3 hl3 => ?_)
    have ob3 := ob.keep k3 (show ¬ b1 = H1.size by omega)
    have ho3 := ho.keep k3 fun y e h => by have := hF y h; have e' : y = H1.size := e; omega
    have hz2 := k2.size
    have hlt2 := hlp.lt
    have hb2 := ob.lt
    unfold ap.R
    refine Ld.oc ob3 rfl (NewS.own fun b4 H4 hb4 hs4 o4 k4 => ?_)
    have hlen : (iRows (l.take i)).length = i := by rw [iRows_len, List.length_take]; omega
    refine App.own (ho3.kp k4) (r := [AC.int .i64 v]) ⟨b4, _, rfl, o4.all⟩ rfl (by rw [hlen]; omega) (by rw [hlen]; omega) fun out' H5 ho5 k5 hs5 => ?_
    have hFn : ∀ y, F y → y ≠ b1 ∧ y ≠ H1.size := fun y h => by have := hF y h; omega
    refine Sto.own ((ob3.kp k4).keep k5 fun h => (hFn _ h).1 rfl) (Nat.le_refl 1) fun H6 o6 k6 hs6 => ?_
    have hlp6 : LoopIs H6 H1.size 1 .normal sl := ((hl3.kp k4).keep k5 fun h => (hFn _ h).2 rfl).keep k6 (show ¬ H1.size = b1 by omega)
    refine ⟨_, _, hlp6, fun H7 k7 hs7 hl7 => CondB.neg rfl ?_⟩
    have hk : Kp H H7 := ((((k2.fresh k3 fun y e => by have e' : y = H1.size := e; omega).trans k4).fresh k5 fun y h => by have := hF y h; omega).fresh k6 fun y e => by have e' : y = b1 := e; omega).fresh k7 fun y e => by have e' : y = H1.size := e; omega
    refine hback (l.length - (i + 1)) _ _ (by omega) ⟨i + 1, out', fun y => F y ∨ y = H4.size, by omega, rfl, ?_, hk, hl7, o6.keep k7 (show ¬ b1 = H1.size by omega), ?_, fun y h => h.elim (hF y) fun e => by omega⟩
    · exact tc rfl (tc rfl (tc rfl (tc ((wrap64 (by omega) (by omega)).trans (by omega)) rfl)))
    · have e : iRows (l.take (i + 1)) = iRows (l.take i) ++ [[AC.int .i64 v]] := by
        unfold iRows
        rw [List.take_add_one, List.map_append, hv]
        rfl
      rw [e]
      have h6 := ho5.keep k6 fun y e h => by
        have e' : y = b1 := e
        rcases h with h | h
        · exact (hFn y h).1 e'
        · omega
      exact h6.keep k7 fun y e h => by
        have e' : y = H1.size := e
        rcases h with h | h
        · exact (hFn y h).2 e'
        · omega
  · have hil : i = l.length := by omega
    subst hil
    rw [List.take_of_length_le (Nat.le_refl _)] at ho
    refine ⟨0, .normal, hlp, by omega, fun H3 k3 hs3 => ⟨rfl, ?_⟩⟩
    have hz2 := k2.size
    refine Ld.oc (ob.keep k3 (show ¬ b1 = H1.size by omega)) rfl ⟨⟨F, ho.keep k3 fun y e h => by have := hF y h; have e' : y = H1.size := e; omega, fun y h => by have := hF y h; omega⟩, k2.fresh k3 fun y e => by have e' : y = H1.size := e; omega⟩
theorem Sorted_c {bx : Nat} {s : AC} {l : List Int} {H : AHeap} (hb : Own H bx [s]) (hs : SlR H s 1 (iRows l)) (hw : GW H) (hl : l.length < 4611686018427387904) (hl2 : l.length * 8 + 8 ≤ 140737488355328) :
    Fn.Z11 (.fn 94 [] [(bx, 0)]) H fun H' q => (∃ F, OwnS H' q 1 F (iRows (sortI l)) ∧ ∀ y, F y → H.size ≤ y) ∧ Kp H H' := by
  refine Z11.run ?_
  unfold Z11.W
  refine RunT.imp ?_ (Z10.run (Q := fun H' q => (∃ F, OwnS H' q 1 F (iRows l) ∧ ∀ y, F y → H.size ≤ y) ∧ Kp H H') ?_)
  · rintro H1 (q : AC) ⟨⟨F, ho, hF⟩, k1⟩
    refine RunT.imp ?_ (Sort_o ho (k1.gw.1 hw) hl)
    rintro H2 ⟨ho2, k2⟩
    exact ⟨⟨F, ho2, hF⟩, k1.fresh k2 hF⟩
  · unfold Z10.W
    exact append_c hb hs hl hl2
end Go.Proofs.YtkpjcnlljdccjaaGreat
end
section
namespace Go.AI
theorem flatten_set {sz : Nat} : ∀ {rows : List (List AC)} {i : Nat} {r : List AC} {o : Nat} {c : AC}, (∀ r ∈ rows, r.length = sz) → rows[i]? = some r → o < sz → (rows.set i (r.set o c)).flatten = rows.flatten.set (i * sz + o) c
  | [], i, r, o, c, _, h, _ => by simp at h
  | a :: rows, 0, r, o, c, hl, h, ho => by
    simp only [List.getElem?_cons_zero, Option.some.injEq] at h
    subst h
    have ha := hl a (List.mem_cons_self ..)
    rw [Nat.zero_mul, Nat.zero_add, List.set_cons_zero, List.flatten_cons, List.flatten_cons, List.set_append_left _ _ (by omega)]
  | a :: rows, i + 1, r, o, c, hl, h, ho => by
    simp only [List.getElem?_cons_succ] at h
    have ha := hl a (List.mem_cons_self ..)
    have hm : (i + 1) * sz = i * sz + sz := by rw [Nat.add_mul, Nat.one_mul]
    rw [List.set_cons_succ, List.flatten_cons, List.flatten_cons, flatten_set (fun r hr => hl r (List.mem_cons_of_mem _ hr)) h ho, List.set_append_right _ _ (by omega)]
    congr 2
    omega
theorem OwnS.write {H : AHeap} {s : AC} {sz : Nat} {F : Nat → Prop} {rows rows' : List (List AC)} {off : Nat} {vs : List AC} (h : OwnS H s sz F rows) (hw : GW H) (hne : rows ≠ []) (ho : off + vs.length ≤ rows.flatten.length)
    (hl : rows'.length = rows.length) (hr : ∀ r ∈ rows', r.length = sz) (hf : rows'.flatten = rows.flatten.take off ++ vs ++ rows.flatten.drop (off + vs.length)) :
    ∃ b cap H', s = .sl (some (b, 0)) sz rows.length cap ∧ H.store (b, off) vs = some H' ∧ OwnS H' s sz F rows' ∧ Keep F H H' ∧ H'.size = H.size := by
  rcases h.ex with ⟨h1, h2⟩ | ⟨b, e, g, st, cap, h1, hg, h3, h4, h5, h6⟩
  · exact absurd h2 hne
  · have hfl : rows'.flatten.length = rows.flatten.length := by rw [flatten_len hr, flatten_len h.len, hl]
    have hblt := AHeap.get_lt hg
    obtain ⟨H', hH'⟩ : ∃ H', H' = H.stores b e g st off (rows.flatten.map some) (vs.map some) := ⟨_, rfl⟩
    have hst : H.store (b, off) vs = some H' := by
      unfold AHeap.store
      simp only [hg]
      rw [if_pos (by rw [List.length_map]; exact ho), hH']
    have hsz : H'.size = H.size := by rw [hH']; exact AHeap.size_stores _ _ _ _ _ _ _ _
    have hext : ∀ k, H'.ext k = H.ext k := fun k => by rw [hH']; exact AHeap.ext_stores _ _ _ _ _ _ _ _ _
    have hnew : splice (rows.flatten.map some) off (vs.map some) = rows'.flatten.map some := by rw [splice_map _ _ off ho, hf]
    -- what each block holds behind it
    have hget : ∀ m, H'.get m = if m = b then some (.row e g st false (rows'.flatten.map some)) else if (H.ext g).2 = true ∧ ¬ (H.ext g).1 ≤ st + off then (H.get m).map (blot g (st + off) (st + off + vs.length)) else H.get m := by
      intro m
      rw [hH']
      unfold AHeap.stores
      rw [AHeap.get_set, hnew]
      have hlt' : b < (if (H.ext g).2 = true then H.blotGroup g (st + off) (st + off + (vs.map some).length) else H).size := by
        split
        · rw [AHeap.size_blotGroup]; exact hblt
        · exact hblt
      by_cases hm : m = b
      · rw [if_pos ⟨hm, hlt'⟩, if_pos hm]
      · rw [if_neg (fun k => hm k.1), if_neg hm]
        by_cases hx : (H.ext g).2 = true
        · rw [if_pos hx]
          unfold AHeap.blotGroup
          by_cases hy : (H.ext g).1 ≤ st + off
          · rw [if_pos hy, if_neg (fun k => k.2 hy)]
          · rw [if_neg hy, if_pos ⟨hx, hy⟩, AHeap.get_blotAll]
            by_cases hml : m < H.size
            · rw [if_pos hml]; simp
            · rw [if_neg hml]
              have : H.get m = none := by unfold AHeap.get; rw [if_neg hml]
              rw [this]; rfl
        · rw [if_neg hx, if_neg (fun k => hx k.1)]
    -- rows keep their groups
    have rowOf : ∀ x e' g' st' ro' cs', H'.get x = some (.row e' g' st' ro' cs') → ∃ e1 st1 ro1 cs1, H.get x = some (.row e1 g' st1 ro1 cs1) := by
      intro x e' g' st' ro' cs' hx
      rw [hget] at hx
      split at hx
      · next hxb => cases hx; subst hxb; exact ⟨_, _, _, _, hg⟩
      split at hx
      · obtain ⟨o, ho, hb⟩ := Option.map_eq_some_iff.1 hx
        cases o with
        | map _ => cases hb
        | loop => cases hb
        | row e1 g1 st1 ro1 cs1 =>
          simp only [blot] at hb
          split at hb
          · cases hb; exact ⟨_, _, _, _, ho⟩
          · cases hb; exact ⟨_, _, _, _, ho⟩
      · exact ⟨_, _, _, _, hx⟩
    have rowTo : ∀ x e' g' st' ro' cs', H.get x = some (.row e' g' st' ro' cs') → ∃ e1 st1 ro1 cs1, H'.get x = some (.row e1 g' st1 ro1 cs1) := by
      intro x e' g' st' ro' cs' hx
      rw [hget]
      split
      · next hxb => subst hxb; rw [hg] at hx; cases hx; exact ⟨_, _, _, _, rfl⟩
      split
      · rw [hx]
        simp only [Option.map_some, blot]
        split
        · exact ⟨_, _, _, _, rfl⟩
        · exact ⟨_, _, _, _, rfl⟩
      · exact ⟨_, _, _, _, hx⟩
    have keep : Keep F H H' := by
      refine ⟨by omega, fun x hx hn => ?_, fun x hx hn => hext x, ⟨fun hw' x e' g' st' ro' cs' hx => ?_, fun hw' x e' g' st' ro' cs' hx => ?_⟩, fun x e' g' st' ro' cs' hx _ _ => rowOf x _ _ _ _ _ hx⟩
      · rw [hget, if_neg (fun k => hn (by rw [k]; exact h5))]
        split
        · cases ho : H.get x with
          | none => rfl
          | some o =>
            cases o with
            | map _ => rfl
            | loop => rfl
            | row e1 g1 st1 ro1 cs1 =>
              simp only [Option.map_some, blot]
              rw [if_neg]
              rintro rfl
              exact hn (h.grp hw _ _ _ _ _ _ _ _ _ _ _ _ _ _ _ h1 hg ho)
        · rfl
      · obtain ⟨_, _, _, _, hx'⟩ := rowOf _ _ _ _ _ _ hx
        exact hw' _ _ _ _ _ _ hx'
      · obtain ⟨_, _, _, _, hx'⟩ := rowTo _ _ _ _ _ _ hx
        exact hw' _ _ _ _ _ _ hx'
    refine ⟨b, cap, H', h1, hst, ⟨hr, fun x hx => by have := h.lt x hx; omega, .inr ⟨b, e, g, st, cap, by rw [hl]; exact h1, ?_, ?_, ?_, h5, h6⟩, fun hw' b' o z n cap' e' g' st' ro cs x e2 st2 ro2 cs2 hs hb hx => ?_⟩, keep, hsz⟩
    · rw [hget, if_pos rfl]
    · rw [hext, hfl]
      exact h3
    · rw [hl]
      exact h4
    · rw [h1] at hs
      cases hs
      rw [hget, if_pos rfl] at hb
      cases hb
      obtain ⟨_, _, _, _, hx'⟩ := rowOf _ _ _ _ _ _ hx
      exact h.grp hw _ _ _ _ _ _ _ _ _ _ _ _ _ _ _ h1 hg hx'
theorem OwnS.put {H : AHeap} {s : AC} {sz : Nat} {F : Nat → Prop} {rows : List (List AC)} {i : Int} {o : Nat} {r : List AC} {c : AC} {k : AHeap → Prop} (h : OwnS H s sz F rows) (hw : GW H) (h0 : 0 ≤ i) (hr : rows[i.toNat]? = some r) (ho : o < sz)
    (q : ∀ H', OwnS H' s sz F (rows.set i.toNat (r.set o c)) → Keep F H H' → H'.size = H.size → k H') : IA sz s i fun p => FA o p fun p2 => Sto H p2 [c] k := by
  have hlt := (List.getElem?_eq_some_iff.1 hr).1
  have hfl := flatten_len h.len
  have hm : (i.toNat + 1) * sz ≤ rows.length * sz := Nat.mul_le_mul_right _ (by omega)
  rw [Nat.add_mul, Nat.one_mul] at hm
  have hrl := h.len r (List.mem_of_getElem? hr)
  obtain ⟨b, cap, H', e, hst, h1, h2, h3⟩ := h.write (rows' := rows.set i.toNat (r.set o c)) (off := i.toNat * sz + o) (vs := [c]) hw (by intro e; rw [e] at hlt; simp at hlt) (by simp only [List.length_singleton]; omega) List.length_set (fun y hy => by
    rcases List.mem_or_eq_of_mem_set hy with hy | rfl
    · exact h.len y hy
    · rw [List.length_set]; exact hrl) (by
    rw [flatten_set h.len hr ho, List.set_eq_take_append_cons_drop, if_pos (by omega)]
    simp)
  rw [e]
  refine IA.mk h0 (by omega) (FA.mk (Sto.mk (H' := H') ?_ (q H' h1 h2 h3)))
  rw [Nat.zero_add]
  exact hst
end Go.AI
end
section
namespace Go.AI
def spAdd (out : List Sp) (v : Int) : List Sp := match out.getLast? with
  | some p => if p.2 + 1 = v then out.dropLast ++ [(p.1, v)] else out ++ [(v, v)]
  | none => out ++ [(v, v)]
def spOf (l : List Int) : List Sp := l.foldl spAdd []
theorem spOf_snoc (l : List Int) (v : Int) : spOf (l ++ [v]) = spAdd (spOf l) v := by unfold spOf; rw [List.foldl_append]; rfl
theorem spOf_take {l : List Int} {i : Nat} {v : Int} (h : l[i]? = some v) : spOf (l.take (i + 1)) = spAdd (spOf (l.take i)) v := by
  rw [List.take_add_one, h]
  exact spOf_snoc _ _
theorem spAdd_last (out : List Sp) (v : Int) : ∃ p, (spAdd out v).getLast? = some p ∧ p.2 = v := by
  unfold spAdd
  split
  · split
    · next p _ _ => exact ⟨(p.1, v), List.getLast?_concat, rfl⟩
    · exact ⟨(v, v), List.getLast?_concat, rfl⟩
  · exact ⟨(v, v), List.getLast?_concat, rfl⟩
theorem spAdd_len (out : List Sp) (v : Int) : (spAdd out v).length ≤ out.length + 1 := by
  unfold spAdd
  split
  · split
    · simp only [List.length_append, List.length_dropLast, List.length_singleton]; omega
    · simp only [List.length_append, List.length_singleton]; omega
  · simp only [List.length_append, List.length_singleton]; omega
theorem spOf_len : ∀ l : List Int, (spOf l).length ≤ l.length := by
  intro l
  suffices h : ∀ (l : List Int) (out : List Sp), (l.foldl spAdd out).length ≤ out.length + l.length by
    have := h l []
    rw [List.length_nil, Nat.zero_add] at this
    exact this
  intro l
  induction l with
  | nil => intro out; simp
  | cons v l ih =>
    intro out
    have := ih (spAdd out v)
    have := spAdd_len out v
    rw [List.foldl_cons, List.length_cons]
    omega
theorem spOf_last {l : List Int} {i : Nat} {v : Int} (hi : 0 < i) (h : l[i - 1]? = some v) : ∃ p, (spOf (l.take i)).getLast? = some p ∧ p.2 = v := by
  obtain ⟨k, rfl⟩ : ∃ k, i = k + 1 := ⟨i - 1, by omega⟩
  rw [spOf_take (by simpa using h)]
  exact spAdd_last _ _
theorem spAdd_hit {out : List Sp} {p : Sp} {v : Int} (h : out.getLast? = some p) (hv : p.2 + 1 = v) : spRows (spAdd out v) = (spRows out).set (out.length - 1) ((spEnc p).set 1 (.int .i64 v)) := by
  unfold spAdd
  rw [h]
  simp only [if_pos hv]
  obtain ⟨init, rfl⟩ : ∃ init, out = init ++ [p] := by
    obtain ⟨ys, hy⟩ := List.getLast?_eq_some_iff.1 h
    exact ⟨ys, hy⟩
  rw [List.dropLast_concat, List.length_append, List.length_singleton, Nat.add_sub_cancel]
  unfold spRows
  rw [List.map_append, List.map_append, List.set_append_right _ _ (by rw [List.length_map]; exact Nat.le_refl _), List.length_map, Nat.sub_self]
  rfl
theorem spAdd_miss {out : List Sp} {v : Int} (h : ∀ p, out.getLast? = some p → p.2 + 1 ≠ v) : spRows (spAdd out v) = spRows out ++ [spEnc (v, v)] := by
  unfold spAdd
  split
  · next p hp => rw [if_neg (h p hp)]; unfold spRows; rw [List.map_append]; rfl
  · unfold spRows; rw [List.map_append]; rfl
theorem last_at {α : Type} {out : List α} {p : α} (h : out.getLast? = some p) : 0 < out.length ∧ out[out.length - 1]? = some p := by
  rw [List.getLast?_eq_getElem?] at h
  refine ⟨?_, h⟩
  cases out with
  | nil => simp at h
  | cons a l => simp
theorem App.clone {H : AHeap} {s : AC} {sz bytes e b : Nat} {F : Nat → Prop} {rows : List (List AC)} {K : AC → AHeap → Prop} (hs : OwnS H s sz F rows) (hne : rows ≠ []) (hb : Own H b []) (hbytes : rows.length * bytes ≤ 140737488355328) (hn : rows.length ≤ 4611686018427387904)
    (h : ∀ s' H', SlR H' s' sz rows → (∀ b o z m cap, s' = .sl (some (b, o)) z m cap → H.size ≤ b) → Kp H H' → K s' H') : App e sz bytes (.sl (some (b, 0)) sz 0 (some 0)) s H K := by
  rcases hs.ex with ⟨_, h2⟩ | ⟨b1, e1, g, st, cap, rfl, hg, _, _, _, _⟩
  · exact absurd h2 hne
  have h0 : rows.length ≠ 0 := fun e => hne (List.eq_nil_of_length_eq_zero e)
  have hfl := flatten_len hs.len
  obtain ⟨e2, hg2⟩ := hb.get
  refine App.mk (n := rows.length) (cs := rows.flatten) (s' := .sl (some (H.size, 0)) sz rows.length none) (H' := H.newRow e (rows.flatten.map some)) ?_ ?_ (h _ _ ?_ (fun b' o z m cap e => ?_) (Kp.newRow _ _ _))
  · simp only [srcA, if_neg h0]
    rw [load_of hg (by omega), List.drop_zero, List.take_of_length_le (by omega)]
    rfl
  · have hmx : ¬ ((0 + rows.length) * bytes > maxBytes ∨ 0 + rows.length > 4611686018427387904) := by unfold maxBytes; rw [Nat.zero_add]; omega
    simp only [appendA, if_neg hmx, if_neg h0, hg2]
    simp
    intro hr
    exact absurd hr hne
  · refine ⟨some (H.size, 0), sz, none, rfl, fun i r hr => ⟨rfl, H.size, 0, rfl, ?_⟩⟩
    have hgn : (H.newRow e (rows.flatten.map some)).get H.size = some (.row e H.size 0 false (rows.flatten.map some)) := by rw [AHeap.get_newRow, if_pos rfl]
    have hlt := (List.getElem?_eq_some_iff.1 hr).1
    have hm : (i + 1) * sz ≤ rows.length * sz := Nat.mul_le_mul_right _ hlt
    rw [Nat.add_mul, Nat.one_mul] at hm
    rw [Nat.zero_add, load_of hgn (by omega), flatten_row hs.len hr]
  · cases e; exact Nat.le_refl _
end Go.AI
end
section
namespace Go.Proofs.YtkpjcnlljdccjaaGreat
open Go.AI Go.Lib
theorem iRow_at {l : List Int} {i : Nat} {p : Int} (h : l[i]? = some p) : (iRows l)[i]? = some [AC.int .i64 p] := by unfold iRows; rw [List.getElem?_map, h]; rfl
theorem spRows_len (l : List Sp) : (spRows l).length = l.length := List.length_map _
theorem ldRow {H : AHeap} {b o : Nat} {p : Int} {k : Int → Prop} (h : H.load (b, o) 1 = some [.int .i64 p]) (q : k p) : Ld [.int .i64] H (.ptr (some (b, o))) k := Ld.all h ((p : Int), ()) rfl rfl q
def setOf (vs : List Int) : List Int := compact (sortI vs)
theorem setOf_asc (vs : List Int) : (setOf vs).Pairwise (· < ·) := (compact_sort vs).1
theorem setOf_mem (vs : List Int) (x : Int) : x ∈ setOf vs ↔ x ∈ vs := (compact_sort vs).2 x
theorem setOf_len (vs : List Int) : (setOf vs).length ≤ vs.length := by
  have h : (sortI vs).length = vs.length := List.length_mergeSort _
  have := compact_length_le (sortI vs)
  unfold setOf
  omega
theorem of_c {s : AC} {vs : List Int} {H : AHeap} (hs : SlR H s 1 (iRows vs)) (hw : GW H) (hl : vs.length ≤ 1000) (hv : ∀ v ∈ vs, -16384 ≤ v ∧ v ≤ 16384) :
    Fn.Z2 s H fun H' q => (∃ F, OwnS H' q 2 F (spRows (spOf (setOf vs))) ∧ ∀ y, F y → H.size ≤ y) ∧ Kp H H' := by
  refine Z2.run ?_
  unfold Z2.W
  refine RunT.imp ?_ (Z12.run (Q := fun H' q => ∃ bx, q = .fn 94 [] [(bx, 0)] ∧ Own H' bx [s] ∧ Kp H H') ?_)
  rotate_left
  · unfold Z12.W
    exact New.own fun bx H1 hbx hs1 o1 k1 => Fnc.mk rfl rfl ⟨bx, rfl, o1, k1⟩
  rintro H1 (q : AC) ⟨bx, rfl, o1, k1⟩
  have hw1 := k1.gw.1 hw
  refine RunT.imp ?_ (Sorted_c o1 (hs.kp k1) hw1 (by omega) (by omega))
  rintro H2 (q : AC) ⟨⟨Fs, ho2, hFs⟩, k2⟩
  refine RunT.imp ?_ (Compact_o ho2 (k2.gw.1 hw1) (by unfold sortI; rw [List.length_mergeSort]; omega))
  rintro H3 (q : AC) ⟨hq, hqF, k3⟩
  have k13 : Kp H1 H3 := k2.fresh k3 hFs
  have kk3 := k1.trans k13
  have hw3 := kk3.gw.1 hw
  have hz3 := kk3.size
  change SlR H3 q 1 (iRows (setOf vs)) at hq
  have hul := setOf_len vs
  have hum : ∀ v ∈ setOf vs, -16384 ≤ v ∧ v ≤ 16384 := fun v h => hv v ((setOf_mem vs v).1 h)
  obtain ⟨us, hus⟩ : ∃ us, us = setOf vs := ⟨_, rfl⟩
  rw [← hus] at hq hul hum ⊢
  refine LenS.of hq ?_
  rw [iRows_len]
  unfold Z2.l10
  refine LoopT.rule (fun m s0 H4 => ∃ (i : Nat) (out : AC) (F : Nat → Prop), i ≤ us.length ∧ m = us.length - i ∧ s0 = (out, q, (us.length : Int), (i : Int), ()) ∧ Kp H3 H4 ∧ OwnS H4 out 2 F (spRows (spOf (us.take i))) ∧ ∀ y, F y → H3.size ≤ y) us.length
    ⟨0, _, fun _ => False, by omega, by omega, rfl, Kp.refl _, OwnS.nil H3 2, fun y h => h.elim⟩ ?_
  rintro m s0 H4 back ⟨i, out, F, hi, rfl, rfl, k4, ho, hF⟩ hback
  simp only [Z2.b10]
  refine CondB.dec (fun hlt => ?_) fun hge => ?_
  · have hi' : i < us.length := by omega
    obtain ⟨v, hvi⟩ : ∃ b, us[i]? = some b := ⟨_, List.getElem?_eq_getElem hi'⟩
    have hvr := hum v (List.mem_of_getElem? hvi)
    have hnx := spOf_take hvi
    have hsl := spOf_len (us.take i)
    have htl : (us.take i).length = i := by rw [List.length_take]; omega
    have hz4 := k4.size
    refine IA.of (hq.kp k4) (by omega) (by rw [Int.toNat_natCast]; exact iRow_at hvi) fun b o hld => ldRow hld (LenS.of ho.slr ?_)
    rw [spRows_len]
    obtain ⟨os, hos⟩ : ∃ os, os = spOf (us.take i) := ⟨_, rfl⟩
    rw [← hos] at ho hnx hsl ⊢
    have add : (∀ p, os.getLast? = some p → p.2 + 1 ≠ v) → Z2.p25 (fun H' q => (∃ F, OwnS H' q 2 F (spRows (spOf us)) ∧ ∀ y, F y → H.size ≤ y) ∧ Kp H H') back out v (os.length : Int) q (us.length : Int) (i : Int) false H4 := by
      intro hm
      unfold Z2.p25
      refine CondB.neg rfl (NewS.own fun b5 H5 hb5 hs5 o5 k5 => ?_)
      refine App.own (ho.kp k5) (r := spEnc (v, v)) ⟨b5, _, rfl, o5.all⟩ rfl (by rw [spRows_len]; omega) (by rw [spRows_len]; omega) fun out' H6 ho6 k6 hs6 => ?_
      refine hback (us.length - (i + 1)) _ _ (by omega) ⟨i + 1, out', fun y => F y ∨ y = H5.size, by omega, rfl, ?_, (k4.trans k5).fresh k6 hF, ?_, fun y h => h.elim (hF y) fun e => by omega⟩
      · exact tc rfl (tc rfl (tc rfl (tc ((wrap64 (by omega) (by omega)).trans (by omega)) rfl)))
      · rw [hnx, spAdd_miss hm]; exact ho6
    refine CondB.dec (fun hpos => ?_) fun hpos => add fun p hp => ?_
    · obtain ⟨p, hp, hpe⟩ : ∃ p, os.getLast? = some p ∧ -16384 ≤ p.2 ∧ p.2 ≤ 16384 := by
        have hi0 : 0 < i := by omega
        obtain ⟨u, hu⟩ : ∃ b, us[i - 1]? = some b := ⟨_, List.getElem?_eq_getElem (by omega)⟩
        obtain ⟨p, h1, h2⟩ := spOf_last hi0 hu
        have := hum u (List.mem_of_getElem? hu)
        exact ⟨p, by rw [hos]; exact h1, by omega, by omega⟩
      obtain ⟨hn0, hat⟩ := last_at hp
      have e1 : IntKind.wrap .i64 ((os.length : Int) - 1) = ((os.length - 1 : Nat) : Int) := (wrap64 (by omega) (by omega)).trans (by omega)
      rw [e1]
      refine IA.of ho.slr (by omega) (by rw [Int.toNat_natCast]; exact spRow_at hat) fun b o hld => FA.mk (Ld.ei hld rfl ?_)
      rw [wrap64 (by omega) (by omega)]
      by_cases he : p.2 + 1 = v
      · rw [show (p.2 + 1 == v) = true from by simpa using he]
        unfold Z2.p25
        refine CondB.pos rfl ?_
        rw [e1]
        refine OwnS.put ho (k4.gw.1 hw3) (by omega) (r := spEnc p) (by rw [Int.toNat_natCast]; exact spRow_at hat) (by omega) fun H5 ho5 k5 hs5 => ?_
        rw [Int.toNat_natCast, ← spAdd_hit hp he, ← hnx] at ho5
        refine hback (us.length - (i + 1)) _ _ (by omega) ⟨i + 1, out, F, by omega, rfl, ?_, k4.fresh k5 hF, ho5, hF⟩
        exact tc rfl (tc rfl (tc rfl (tc ((wrap64 (by omega) (by omega)).trans (by omega)) rfl)))
      · rw [show (p.2 + 1 == v) = false from by simpa using he]
        refine add fun p' hp' => ?_
        rw [hp] at hp'
        cases hp'
        exact he
    · have := (last_at hp).1
      omega
  · have hil : i = us.length := by omega
    subst hil
    rw [List.take_length] at ho
    exact ⟨⟨F, ho, fun y h => by have := hF y h; omega⟩, kk3.trans k4⟩
def fitErr (l : List Sp) : Int := if l.length = 0 then 15 else if 256 < l.length then 3 else 0
def fitRows (l : List Sp) : List Sp := if l.length = 0 then [] else if 256 < l.length then [] else l
theorem fits_c {s : AC} {l : List Sp} {F : Nat → Prop} {H : AHeap} (hs : OwnS H s 2 F (spRows l)) (hl : l.length < 4611686018427387904) :
    Fn.Z1 s H fun H' q e => e = fitErr l ∧ SlR H' q 2 (spRows (fitRows l)) ∧ Kp H H' := by
  refine Z1.run ?_
  unfold Z1.W
  unfold fitErr fitRows
  refine LenS.of hs.slr ?_
  rw [spRows_len]
  refine CondB.eq (fun h => ?_) fun h1 => LenS.of hs.slr ?_
  · have h' : l.length = 0 := by omega
    rw [if_pos h', if_pos h']
    exact ⟨rfl, slr_none _ _, Kp.refl _⟩
  have h1' : ¬ l.length = 0 := by omega
  rw [spRows_len, if_neg h1', if_neg h1']
  refine CondB.dec (fun h => ?_) fun h2 => ?_
  · have h' : 256 < l.length := by omega
    rw [if_pos h', if_pos h']
    exact ⟨rfl, slr_none _ _, Kp.refl _⟩
  · have h' : ¬ 256 < l.length := by omega
    rw [if_neg h', if_neg h']
    have hne : spRows l ≠ [] := fun e => h1' (by rw [← spRows_len, e]; rfl)
    refine RunT.imp ?_ (Z9.run (Q := fun H' q => SlR H' q 2 (spRows l) ∧ Kp H H') ?_)
    · rintro H1 (q : AC) ⟨a, b⟩
      exact ⟨rfl, a, b⟩
    · unfold Z9.W
      have hn : ∃ p n cap, s = .sl (some p) 2 n cap := by
        rcases hs.ex with ⟨_, h⟩ | ⟨b, _, _, _, cap, h, _⟩
        · exact absurd h hne
        · exact ⟨_, _, _, h⟩
      obtain ⟨p, n, cap, rfl⟩ := hn
      simp only [NilQ]
      refine CondB.neg rfl (NewS.own fun b H1 hb hs1 ob k1 => ?_)
      refine App.clone (hs.kp k1) hne ob (by rw [spRows_len]; omega) (by rw [spRows_len]; omega) fun s' H2 h2 _ k2 => ?_
      exact ⟨h2, k1.trans k2⟩
theorem within_c {v : Int} {H : AHeap} : Fn.Z3 v H fun H' q => H' = H ∧ (q = true ↔ -16384 ≤ v ∧ v ≤ 16384) := by
  refine Z3.run ?_
  unfold Z3.W
  refine CondB.dec (fun h => ⟨rfl, ?_⟩) fun h => ⟨rfl, ?_⟩
  · rw [decide_eq_true_iff]; omega
  · constructor
    · intro e; cases e
    · rintro ⟨a, _⟩; omega
open Classical in
noncomputable def ofErr (vs : List Int) : Int := if 1000 < vs.length then 3 else if vs.length = 0 then 15 else if ∃ v ∈ vs, v < -16384 ∨ 16384 < v then 1 else fitErr (spOf (setOf vs))
open Classical in
noncomputable def ofRows (vs : List Int) : List Sp := if 1000 < vs.length then [] else if vs.length = 0 then [] else if ∃ v ∈ vs, v < -16384 ∨ 16384 < v then [] else fitRows (spOf (setOf vs))
theorem Of_c {s : AC} {vs : List Int} {H : AHeap} (hs : SlR H s 1 (iRows vs)) (hw : GW H) :
    Fn.Z0 s H fun H' q e => e = ofErr vs ∧ SlR H' q 2 (spRows (ofRows vs)) ∧ Kp H H' := by
  refine Z0.run ?_
  unfold Z0.W ofErr ofRows
  refine LenS.of hs ?_
  rw [iRows_len]
  refine CondB.dec (fun h => ?_) fun h1 => LenS.of hs ?_
  · have h' : 1000 < vs.length := by omega
    rw [if_pos h', if_pos h']
    exact ⟨rfl, slr_none _ _, Kp.refl _⟩
  have h1' : ¬ 1000 < vs.length := by omega
  rw [iRows_len, if_neg h1', if_neg h1']
  refine CondB.eq (fun h => ?_) fun h2 => LenS.of hs ?_
  · have h' : vs.length = 0 := by omega
    rw [if_pos h', if_pos h']
    exact ⟨rfl, slr_none _ _, Kp.refl _⟩
  have h2' : ¬ vs.length = 0 := by omega
  rw [iRows_len, if_neg h2', if_neg h2']
  unfold Z0.l21
  refine LoopT.rule (fun m s0 H2 => ∃ i : Nat, i ≤ vs.length ∧ m = vs.length - i ∧ s0 = (s, s, (vs.length : Int), (i : Int), ()) ∧ H2 = H ∧ ∀ j p, j < i → vs[j]? = some p → -16384 ≤ p ∧ p ≤ 16384) vs.length ⟨0, by omega, by omega, rfl, rfl, fun j p h => by omega⟩ ?_
  rintro m s0 H2 back ⟨i, hi, rfl, rfl, rfl, hall⟩ hback
  simp only [Z0.b21]
  refine CondB.dec (fun hlt => ?_) fun hge => ?_
  · have hi' : i < vs.length := by omega
    obtain ⟨p, hp⟩ : ∃ b, vs[i]? = some b := ⟨_, List.getElem?_eq_getElem hi'⟩
    refine IA.of hs (by omega) (by rw [Int.toNat_natCast]; exact iRow_at hp) fun b o hld => ldRow hld (RunT.imp ?_ within_c)
    rintro H3 (q : Bool) ⟨e3, hq⟩
    obtain rfl : H2 = H3 := e3.symm
    refine CondB.mk (fun hb => ?_) fun hb => ?_
    · have hx : ∃ v ∈ vs, v < -16384 ∨ 16384 < v := ⟨p, List.mem_of_getElem? hp, by
        have : ¬ (-16384 ≤ p ∧ p ≤ 16384) := fun h => by rw [hq.2 h] at hb; cases hb
        omega⟩
      rw [if_pos hx, if_pos hx]
      exact ⟨rfl, slr_none _ _, Kp.refl _⟩
    · have hin := hq.1 (by cases q <;> simp_all)
      refine hback (vs.length - (i + 1)) _ _ (by omega) ⟨i + 1, by omega, rfl, ?_, rfl, fun j u hj hu => ?_⟩
      · exact tc rfl (tc rfl (tc rfl (tc ((wrap64 (by omega) (by omega)).trans (by omega)) rfl)))
      · by_cases hji : j = i
        · subst hji
          rw [hp] at hu
          cases hu
          exact hin
        · exact hall j u (by omega) hu
  · have hil : i = vs.length := by omega
    subst hil
    have hok : ∀ v ∈ vs, -16384 ≤ v ∧ v ≤ 16384 := fun v hv => by
      obtain ⟨j, hj, e⟩ := List.getElem_of_mem hv
      exact hall j v hj (by rw [List.getElem?_eq_getElem hj, e])
    have hx : ¬ ∃ v ∈ vs, v < -16384 ∨ 16384 < v := by rintro ⟨v, hv, h⟩; have := hok v hv; omega
    rw [if_neg hx, if_neg hx]
    refine RunT.imp ?_ (of_c hs hw (by omega) hok)
    rintro H3 (q : AC) ⟨⟨F, ho, hF⟩, k3⟩
    have hsl := spOf_len (setOf vs)
    have hul := setOf_len vs
    refine RunT.imp ?_ (fits_c ho (by omega))
    rintro H4 (q2 : AC) (e : Int) ⟨he, hq2, k4⟩
    exact ⟨he, hq2, k3.trans k4⟩
end Go.Proofs.YtkpjcnlljdccjaaGreat
end
section
namespace Go.Proofs.YtkpjcnlljdccjaaGreat
open Go.AI Go.Lib
theorem Spans_c {s : AC} {us : List Int} {H : AHeap} (hs : SlR H s 1 (iRows us)) (hw : GW H) (hl : us.length ≤ 100000) (hum : ∀ v ∈ us, -100000 ≤ v ∧ v ≤ 100000) :
    Fn.Z7 s H fun H' q => (∃ F, OwnS H' q 2 F (spRows (spOf us)) ∧ ∀ y, F y → H.size ≤ y) ∧ Kp H H' := by
  refine Z7.run ?_
  unfold Z7.W Z7.l8
  refine LoopT.rule (fun m s0 H4 => ∃ (i : Nat) (out : AC) (F : Nat → Prop), i ≤ us.length ∧ m = us.length - i ∧ s0 = (s, out, (i : Int), ()) ∧ Kp H H4 ∧ OwnS H4 out 2 F (spRows (spOf (us.take i))) ∧ ∀ y, F y → H.size ≤ y) us.length
    ⟨0, _, fun _ => False, by omega, by omega, rfl, Kp.refl _, OwnS.nil H 2, fun y h => h.elim⟩ ?_
  rintro m s0 H4 back ⟨i, out, F, hi, rfl, rfl, k4, ho, hF⟩ hback
  simp only [Z7.b8]
  have hs4 := hs.kp k4
  refine LenS.of hs4 ?_
  rw [iRows_len]
  refine CondB.dec (fun hlt => ?_) fun hge => ?_
  · have hi' : i < us.length := by omega
    obtain ⟨v, hvi⟩ : ∃ b, us[i]? = some b := ⟨_, List.getElem?_eq_getElem hi'⟩
    have hvr := hum v (List.mem_of_getElem? hvi)
    have hnx := spOf_take hvi
    have hsl := spOf_len (us.take i)
    have htl : (us.take i).length = i := by rw [List.length_take]; omega
    have hz4 := k4.size
    have hlast := fun hi0 u => spOf_last (l := us) (i := i) (v := u) hi0
    have hzero : i = 0 → spOf (us.take i) = [] := by rintro rfl; rfl
    obtain ⟨os, hos⟩ : ∃ os, os = spOf (us.take i) := ⟨_, rfl⟩
    rw [← hos] at ho hnx hsl hlast hzero
    have rd : ∀ {k : Int → Prop}, k v → IA 1 s (i : Int) fun q => Ld [.int .i64] H4 q fun (x : Int) => k x := fun {k} hk =>
      IA.of hs4 (by omega) (by rw [Int.toNat_natCast]; exact iRow_at hvi) fun b o hld => ldRow hld hk
    have add : (∀ p, os.getLast? = some p → p.2 + 1 ≠ v) → Z7.p19 (fun H' q => (∃ F, OwnS H' q 2 F (spRows (spOf us)) ∧ ∀ y, F y → H.size ≤ y) ∧ Kp H H') back s out (i : Int) false H4 := by
      intro hm
      unfold Z7.p19
      refine CondB.neg rfl (rd (rd (NewS.own fun b5 H5 hb5 hs5 o5 k5 => ?_)))
      refine App.own (ho.kp k5) (r := spEnc (v, v)) ⟨b5, _, rfl, o5.all⟩ rfl (by rw [spRows_len]; omega) (by rw [spRows_len]; omega) fun out' H6 ho6 k6 hs6 => ?_
      refine hback (us.length - (i + 1)) _ _ (by omega) ⟨i + 1, out', fun y => F y ∨ y = H5.size, by omega, rfl, ?_, (k4.trans k5).fresh k6 hF, ?_, fun y h => h.elim (hF y) fun e => by omega⟩
      · exact tc rfl (tc rfl (tc ((wrap64 (by omega) (by omega)).trans (by omega)) rfl))
      · rw [hnx, spAdd_miss hm]; exact ho6
    refine CondB.dec (fun hpos => ?_) fun hpos => add fun p hp => ?_
    · have hi0 : 0 < i := by omega
      obtain ⟨u, hu⟩ : ∃ b, us[i - 1]? = some b := ⟨_, List.getElem?_eq_getElem (by omega)⟩
      have hur := hum u (List.mem_of_getElem? hu)
      obtain ⟨p, hp, hpe⟩ := hlast hi0 u hu
      obtain ⟨hn0, hat⟩ := last_at hp
      have ei : IntKind.wrap .i64 ((i : Int) - 1) = ((i - 1 : Nat) : Int) := (wrap64 (by omega) (by omega)).trans (by omega)
      refine rd ?_
      rw [ei]
      refine IA.of hs4 (by omega) (by rw [Int.toNat_natCast]; exact iRow_at hu) fun b o hld => ldRow hld ?_
      rw [wrap64 (by omega) (by omega)]
      by_cases he : p.2 + 1 = v
      · rw [show (v == u + 1) = true from by rw [beq_iff_eq]; omega]
        unfold Z7.p19
        refine CondB.pos rfl (LenS.of ho.slr (rd ?_))
        rw [spRows_len]
        have e1 : IntKind.wrap .i64 ((os.length : Int) - 1) = ((os.length - 1 : Nat) : Int) := (wrap64 (by omega) (by omega)).trans (by omega)
        rw [e1]
        refine OwnS.put ho (k4.gw.1 hw) (by omega) (r := spEnc p) (by rw [Int.toNat_natCast]; exact spRow_at hat) (by omega) fun H5 ho5 k5 hs5 => ?_
        rw [Int.toNat_natCast, ← spAdd_hit hp he, ← hnx] at ho5
        refine hback (us.length - (i + 1)) _ _ (by omega) ⟨i + 1, out, F, by omega, rfl, ?_, k4.fresh k5 hF, ho5, hF⟩
        exact tc rfl (tc rfl (tc ((wrap64 (by omega) (by omega)).trans (by omega)) rfl))
      · rw [show (v == u + 1) = false from by rw [beq_eq_false_iff_ne]; omega]
        refine add fun p' hp' => ?_
        rw [hp] at hp'
        cases hp'
        exact he
    · have := (last_at hp).1
      rw [hzero (by omega)] at this
      simp at this
  · have hil : i = us.length := by omega
    subst hil
    rw [List.take_length] at ho
    exact ⟨⟨F, ho, hF⟩, k4⟩
def pk (g : Nat → Bool) : Nat → List Int
  | 0 => []
  | i + 1 => pk g i ++ if g i then [(i : Int) - 16384] else []
theorem pk_mem (g : Nat → Bool) : ∀ (n : Nat) (x : Int), x ∈ pk g n ↔ ∃ j, j < n ∧ g j = true ∧ x = (j : Int) - 16384
  | 0, x => by simp [pk]
  | n + 1, x => by
    unfold pk
    rw [List.mem_append, pk_mem g n x]
    constructor
    · rintro (⟨j, h1, h2, h3⟩ | h)
      · exact ⟨j, by omega, h2, h3⟩
      · split at h
        · next hg => exact ⟨n, by omega, hg, List.mem_singleton.1 h⟩
        · cases h
    · rintro ⟨j, h1, h2, h3⟩
      by_cases hj : j = n
      · subst hj
        rw [if_pos h2]
        exact .inr (List.mem_singleton.2 h3)
      · exact .inl ⟨j, by omega, h2, h3⟩
theorem pk_asc (g : Nat → Bool) : ∀ n : Nat, (pk g n).Pairwise (· < ·)
  | 0 => List.Pairwise.nil
  | n + 1 => by
    unfold pk
    refine List.pairwise_append.2 ⟨pk_asc g n, ?_, fun a ha b hb => ?_⟩
    · split
      · exact List.pairwise_singleton _ _
      · exact List.Pairwise.nil
    · obtain ⟨j, h1, _, rfl⟩ := (pk_mem g n a).1 ha
      split at hb
      · obtain rfl := List.mem_singleton.1 hb
        omega
      · cases hb
theorem pk_len (g : Nat → Bool) : ∀ n : Nat, (pk g n).length ≤ n
  | 0 => Nat.le_refl _
  | n + 1 => by
    have := pk_len g n
    unfold pk
    rw [List.length_append]
    split <;> simp <;> omega
theorem picked_c {tb : Nat} {cap : Option Nat} {N : Nat} {cs : List AC} {g : Nat → Bool} {H : AHeap} (hN : N = 32769) (ht : Own H tb cs) (hcl : cs.length = N) (hg : ∀ j, j < N → cs[j]? = some (.bool (g j))) (hw : GW H) :
    Fn.Z8 (.sl (some (tb, 0)) 1 N cap) H fun H' q e => e = fitErr (spOf (pk g N)) ∧ SlR H' q 2 (spRows (fitRows (spOf (pk g N)))) ∧ Kp H H' := by
  refine Z8.run ?_
  unfold Z8.W Z8.l8
  refine LoopT.rule (fun m s0 H4 => ∃ (i : Nat) (out : AC) (F : Nat → Prop), i ≤ N ∧ m = N - i ∧ s0 = (.sl (some (tb, 0)) 1 N cap, out, (i : Int), ()) ∧ Kp H H4 ∧ OwnS H4 out 1 F (iRows (pk g i)) ∧ ∀ y, F y → H.size ≤ y) N
    ⟨0, _, fun _ => False, by omega, by omega, rfl, Kp.refl _, OwnS.nil H 1, fun y h => h.elim⟩ ?_
  rintro m s0 H4 back ⟨i, out, F, hi, rfl, rfl, k4, ho, hF⟩ hback
  simp only [Z8.b8]
  refine LenS.mk (CondB.dec (fun hlt => ?_) fun hge => ?_)
  · have hi' : i < N := by omega
    have hlen := pk_len g i
    have hz4 := k4.size
    refine IA.mk (by omega) (by omega) (Ld.ob (ht.kp k4) (by rw [Nat.zero_add, Nat.mul_one, Int.toNat_natCast]; exact hg i hi') ?_)
    refine CondB.mk (fun hgi => ?_) fun hgi => ?_
    · have ew : IntKind.wrap .i64 ((i : Int) - 16384) = (i : Int) - 16384 := wrap64 (by omega) (by omega)
      rw [ew]
      refine NewS.own fun b5 H5 hb5 hs5 o5 k5 => ?_
      refine App.own (ho.kp k5) (r := [AC.int .i64 ((i : Int) - 16384)]) ⟨b5, _, rfl, o5.all⟩ rfl (by rw [iRows_len]; omega) (by rw [iRows_len]; omega) fun out' H6 ho6 k6 hs6 => ?_
      refine hback (N - (i + 1)) _ _ (by omega) ⟨i + 1, out', fun y => F y ∨ y = H5.size, by omega, rfl, ?_, (k4.trans k5).fresh k6 hF, ?_, fun y h => h.elim (hF y) fun e => by omega⟩
      · exact tc rfl (tc rfl (tc ((wrap64 (by omega) (by omega)).trans (by omega)) rfl))
      · have e : iRows (pk g (i + 1)) = iRows (pk g i) ++ [[AC.int .i64 ((i : Int) - 16384)]] := by
          rw [show pk g (i + 1) = pk g i ++ if g i then [(i : Int) - 16384] else [] from rfl, if_pos hgi]
          unfold iRows
          rw [List.map_append]
          rfl
        rw [e]; exact ho6
    · refine hback (N - (i + 1)) _ _ (by omega) ⟨i + 1, out, F, by omega, rfl, ?_, k4, ?_, hF⟩
      · exact tc rfl (tc rfl (tc ((wrap64 (by omega) (by omega)).trans (by omega)) rfl))
      · have e : pk g (i + 1) = pk g i := by
          rw [show pk g (i + 1) = pk g i ++ if g i then [(i : Int) - 16384] else [] from rfl, if_neg (by rw [hgi]; simp), List.append_nil]
        rw [e]; exact ho
  · have hiN : i = N := by omega
    subst hiN
    have hlen := pk_len g i
    obtain ⟨us, hus⟩ : ∃ us, us = pk g i := ⟨_, rfl⟩
    have hum : ∀ v ∈ us, -100000 ≤ v ∧ v ≤ 100000 := fun v hv => by
      rw [hus] at hv
      obtain ⟨j, h1, _, h3⟩ := (pk_mem g i v).1 hv
      omega
    rw [← hus] at ho hlen ⊢
    refine RunT.imp ?_ (Spans_c ho.slr (k4.gw.1 hw) (by omega) hum)
    rintro H5 (q : AC) ⟨⟨F5, ho5, hF5⟩, k5⟩
    have k45 := k4.trans k5
    unfold fitErr fitRows
    refine LenS.of ho5.slr ?_
    rw [spRows_len]
    refine CondB.eq (fun h => ?_) fun h1 => LenS.of ho5.slr ?_
    · have h' : (spOf us).length = 0 := by omega
      rw [if_pos h', if_pos h']
      exact ⟨rfl, slr_none _ _, k45⟩
    have h1' : ¬ (spOf us).length = 0 := by omega
    rw [spRows_len, if_neg h1', if_neg h1']
    refine CondB.dec (fun h => ?_) fun h2 => ?_
    · have h' : 256 < (spOf us).length := by omega
      rw [if_pos h', if_pos h']
      exact ⟨rfl, slr_none _ _, k45⟩
    · have h' : ¬ 256 < (spOf us).length := by omega
      rw [if_neg h', if_neg h']
      exact ⟨rfl, ho5.slr, k45⟩
theorem ROf_c {s : AC} {vs : List Int} {H : AHeap} (hs : SlR H s 1 (iRows vs)) (hw : GW H) :
    Fn.Z5 s H fun H' q e => e = ofErr vs ∧ SlR H' q 2 (spRows (ofRows vs)) ∧ Kp H H' := by
  refine Z5.run ?_
  unfold Z5.W ofErr ofRows
  refine LenS.of hs ?_
  rw [iRows_len]
  refine CondB.dec (fun h => ?_) fun h1 => LenS.of hs ?_
  · have h' : 1000 < vs.length := by omega
    rw [if_pos h', if_pos h']
    exact ⟨rfl, slr_none _ _, Kp.refl _⟩
  have h1' : ¬ 1000 < vs.length := by omega
  rw [iRows_len, if_neg h1', if_neg h1']
  refine CondB.eq (fun h => ?_) fun h2 => ?_
  · have h' : vs.length = 0 := by omega
    rw [if_pos h', if_pos h']
    exact ⟨rfl, slr_none _ _, Kp.refl _⟩
  have h2' : ¬ vs.length = 0 := by omega
  rw [if_neg h2', if_neg h2']
  obtain ⟨N, hN⟩ : ∃ N : Nat, N = 32769 := ⟨_, rfl⟩
  rw [show (32769 : Int) = (N : Int) from by omega]
  refine MkS.own (n := N) (by omega) (by omega) fun tb H1 htb hs1 ot k1 => ?_
  unfold Z5.l24
  refine LoopT.rule (fun m s0 H2 => ∃ (i : Nat) (cs : List AC), i ≤ vs.length ∧ m = vs.length - i ∧ s0 = (s, .sl (some (tb, 0)) 1 N (some N), (i : Int), ()) ∧ Kp H H2 ∧ Own H2 tb cs ∧ cs.length = N ∧ (∀ j, j < N → cs[j]? = some (.bool (decide (((j : Int) - 16384) ∈ vs.take i)))) ∧ ∀ j p, j < i → vs[j]? = some p → -16384 ≤ p ∧ p ≤ 16384) vs.length
    ⟨0, _, by omega, by omega, rfl, k1, ot, List.length_replicate, fun j hj => ?_, fun j p h => by omega⟩ ?_
  · rw [List.getElem?_replicate, if_pos hj]
    simp
  rintro m s0 H2 back ⟨i, cs, hi, rfl, rfl, k2, oc, hcl, hcs, hall⟩ hback
  simp only [Z5.b24]
  have hs2 := hs.kp k2
  refine LenS.of hs2 ?_
  rw [iRows_len]
  refine CondB.dec (fun hlt => ?_) fun hge => ?_
  · have hi' : i < vs.length := by omega
    obtain ⟨p, hp⟩ : ∃ b, vs[i]? = some b := ⟨_, List.getElem?_eq_getElem hi'⟩
    have rd : ∀ {k : Int → Prop}, k p → IA 1 s (i : Int) fun q => Ld [.int .i64] H2 q fun (x : Int) => k x := fun {k} hk =>
      IA.of hs2 (by omega) (by rw [Int.toNat_natCast]; exact iRow_at hp) fun b o hld => ldRow hld hk
    have bad : (p < -16384 ∨ 16384 < p) → Z5.p36 (fun H' q e => e = (if ∃ v ∈ vs, v < -16384 ∨ 16384 < v then 1 else fitErr (spOf (setOf vs))) ∧ SlR H' q 2 (spRows (if ∃ v ∈ vs, v < -16384 ∨ 16384 < v then [] else fitRows (spOf (setOf vs)))) ∧ Kp H H') back s (.sl (some (tb, 0)) 1 N (some N)) (i : Int) true H2 := by
      intro hb
      unfold Z5.p36
      have hx : ∃ v ∈ vs, v < -16384 ∨ 16384 < v := ⟨p, List.mem_of_getElem? hp, hb⟩
      refine CondB.pos rfl ?_
      rw [if_pos hx, if_pos hx]
      exact ⟨rfl, slr_none _ _, k2⟩
    refine rd (CondB.dec (fun h => bad (.inl h)) fun hlo => rd ?_)
    by_cases hhi : 16384 < p
    · rw [decide_eq_true (show p > 16384 from hhi)]
      exact bad (.inr hhi)
    rw [decide_eq_false (show ¬ p > 16384 from hhi)]
    unfold Z5.p36
    refine CondB.neg rfl (rd ?_)
    obtain ⟨w, hwp⟩ : ∃ w : Nat, p = (w : Int) - 16384 := ⟨(p + 16384).toNat, by omega⟩
    have hwN : w < N := by omega
    have ew : IntKind.wrap .i64 (p + 16384) = (w : Int) := (wrap64 (by omega) (by omega)).trans (by omega)
    rw [ew]
    refine IA.mk (by omega) (by omega) ?_
    refine Sto.cell oc (by rw [hcl]; omega) fun H3 oc3 k3 hs3 => ?_
    have hz2 := k1.size
    refine hback (vs.length - (i + 1)) _ _ (by omega) ⟨i + 1, _, by omega, rfl, ?_, k2.fresh k3 fun y e => by have e' : y = tb := e; omega, oc3, by rw [List.length_set, hcl], fun j hj => ?_, fun j u hj hu => ?_⟩
    · exact tc rfl (tc rfl (tc ((wrap64 (by omega) (by omega)).trans (by omega)) rfl))
    · simp only [Int.toNat_natCast, Nat.mul_one, Nat.zero_add]
      have et : vs.take (i + 1) = vs.take i ++ [p] := by rw [List.take_add_one, hp]; rfl
      by_cases hjw : j = w
      · subst hjw
        rw [List.getElem?_set_self (by omega), decide_eq_true]
        rw [et, List.mem_append, List.mem_singleton]
        exact .inr hwp.symm
      · rw [List.getElem?_set_ne (by omega), hcs j hj]
        congr 2
        rw [decide_eq_decide, et, List.mem_append, List.mem_singleton]
        constructor
        · exact .inl
        · rintro (h | h)
          · exact h
          · exfalso; omega
    · by_cases hji : j = i
      · subst hji
        rw [hp] at hu
        cases hu
        omega
      · exact hall j u (by omega) hu
  · have hil : i = vs.length := by omega
    subst hil
    have hok : ∀ v ∈ vs, -16384 ≤ v ∧ v ≤ 16384 := fun v hv => by
      obtain ⟨j, hj, e⟩ := List.getElem_of_mem hv
      exact hall j v hj (by rw [List.getElem?_eq_getElem hj, e])
    have hx : ¬ ∃ v ∈ vs, v < -16384 ∨ 16384 < v := by rintro ⟨v, hv, h⟩; have := hok v hv; omega
    rw [if_neg hx, if_neg hx]
    rw [List.take_length] at hcs
    have hset : setOf vs = pk (fun j => decide (((j : Int) - 16384) ∈ vs)) N := by
      refine asc_eq (setOf_asc vs) (pk_asc _ N) fun x => ?_
      rw [setOf_mem, pk_mem]
      constructor
      · intro h
        have := hok x h
        exact ⟨(x + 16384).toNat, by omega, decide_eq_true (by rw [show (((x + 16384).toNat : Int) - 16384) = x from by omega]; exact h), by omega⟩
      · rintro ⟨j, _, h, rfl⟩
        exact of_decide_eq_true h
    rw [hset]
    refine RunT.imp ?_ (picked_c hN oc hcl hcs (k2.gw.1 hw))
    rintro H3 (q : AC) (e : Int) ⟨he, hq, k3⟩
    exact ⟨he, hq, k2.trans k3⟩
theorem SameDom_c {a b : AC} {l : List Sp} {H : AHeap} (ha : SlR H a 2 (spRows l)) (hb : SlR H b 2 (spRows l)) (hl : l.length < 4611686018427387904) :
    Fn.Z6 a b H fun H' q => H' = H ∧ q = true := by
  refine Z6.run ?_
  unfold Z6.W
  refine LenS.of ha (LenS.of hb (CondB.neg (by simp) ?_))
  unfold Z6.l14
  refine LoopT.rule (fun m s0 H2 => ∃ i : Nat, i ≤ l.length ∧ m = l.length - i ∧ s0 = (a, b, (i : Int), ()) ∧ H2 = H) l.length ⟨0, by omega, by omega, rfl, rfl⟩ ?_
  rintro m s0 H2 back ⟨i, hi, rfl, rfl, rfl⟩ hback
  simp only [Z6.b14]
  refine LenS.of ha ?_
  rw [spRows_len]
  refine CondB.dec (fun hlt => ?_) fun hge => ⟨trivial, trivial⟩
  have hi' : i < l.length := by omega
  obtain ⟨p, hp⟩ : ∃ b, l[i]? = some b := ⟨_, List.getElem?_eq_getElem hi'⟩
  refine IA.of ha (by omega) (by rw [Int.toNat_natCast]; exact spRow_at hp) fun b1 o1 hld => Ld.a2 hld p.1 p.2 rfl rfl ?_
  refine IA.of hb (by omega) (by rw [Int.toNat_natCast]; exact spRow_at hp) fun b1 o1 hld => Ld.a2 hld p.1 p.2 rfl rfl ?_
  refine CondB.neg (by simp) (hback (l.length - (i + 1)) _ _ (by omega) ⟨i + 1, by omega, rfl, ?_, rfl⟩)
  exact tc rfl (tc rfl (tc ((wrap64 (by omega) (by omega)).trans (by omega)) rfl))
theorem ofRows_len (vs : List Int) : (ofRows vs).length ≤ 256 := by
  unfold ofRows fitRows
  split
  · simp
  split
  · simp
  split
  · simp
  split
  · simp
  split
  · simp
  · omega
theorem law2_c {s : AC} {vs : List Int} {H : AHeap} (hs : SlR H s 1 (iRows vs)) (hw : GW H) :
    Fn.Z4 s H fun H' q => q = true ∧ Kp H H' := by
  refine Z4.run ?_
  unfold Z4.W
  refine RunT.imp ?_ (Of_c hs hw)
  rintro H1 (q : AC) (e : Int) ⟨he, hq, k1⟩
  refine RunT.imp ?_ (ROf_c (hs.kp k1) (k1.gw.1 hw))
  rintro H2 (q2 : AC) (e2 : Int) ⟨he2, hq2, k2⟩
  have hlen := ofRows_len vs
  obtain ⟨l, hl⟩ : ∃ l, l = ofRows vs := ⟨_, rfl⟩
  rw [← hl] at hq hq2 hlen
  refine CondB.pos (by rw [he, he2]; simp) (RunT.imp ?_ (SameDom_c (hq.kp k2) hq2 (by omega)))
  rintro H3 (q : Bool) ⟨e3, rfl⟩
  obtain rfl : H2 = H3 := e3.symm
  refine CondB.pos rfl (RunT.imp ?_ labelled_c)
  rintro H4 (q : Bool) ⟨rfl, k4⟩
  exact ⟨rfl, (k1.trans k2).trans k4⟩
end Go.Proofs.YtkpjcnlljdccjaaGreat
end
section
namespace Go.Proofs.YtkpjcnlljdccjaaGreat
open Go.AI
theorem good_ints {D : Type} {H : AHeap} {n : Nat} {cs : List AC} {d : DataW D} (h : AI.Good Tryz.prog H n 28 cs d) : ∃ (s : AC) (l : List Int), cs = [s] ∧ SlR H s 1 (iRows l) ∧ l.length ≤ 9223372036854775807 := by
  obtain ⟨s, l, rfl, hs, hl, _, _⟩ := good_rows (enc := fun x : Int => [AC.int .i64 x]) (R := fun _ => True) Tryz.underlying28 (fun _ => rfl) cells3 (fun m _ cs d h => by obtain ⟨i, e, _⟩ := good_i Tryz.underlying3 h; exact ⟨i, e, trivial⟩) h
  exact ⟨s, l, rfl, hs, by unfold maxLen at hl; omega⟩
end Go.Proofs.YtkpjcnlljdccjaaGreat
end
