/- Joined by a program: what the proof of the law leans on, part 7. -/
import Derived.Test.YtanaaabejeeakaaA6
set_option linter.unusedVariables false
set_option linter.unusedSimpArgs false
section
namespace Go.AI
def updAll (t : Env) : List (Tmp × AV) → Env
  | [] => t
  | (p, a) :: r => updAll (upd t p a) r
theorem setAll_TR : ∀ {l : List (Tmp × AV)} {T : List AV} {t : Env}, TR T t → (∀ q ∈ l, q.1 < T.length) → TR (setAll T l) (updAll t l)
  | [], T, t, h, _ => h
  | (p, a) :: l, T, t, h, hl => by
    simp only [setAll, updAll]
    exact setAll_TR (h.set (hl _ (List.mem_cons_self ..)) a) fun q hq => by rw [List.length_set]; exact hl q (List.mem_cons_of_mem _ hq)
theorem setAll_len : ∀ (l : List (Tmp × AV)) (T : List AV), (setAll T l).length = T.length
  | [], _ => rfl
  | (p, a) :: l, T => by simp only [setAll]; rw [setAll_len l, List.length_set]
theorem roundE_of {P : Program} [BaseC P] {l : Nat} {args : List AV} {H : AHeap} {st0 : Nat} {pend0 : Ex} {T : List AV} {ps : Array Tmp} {ca cb : Code} {tblA tblB : List (Nat × List (Nat × Nat))} {s1 s3 : St} {e : Ex} {p1 : Ex} {T1 : List AV} {ps1 : Array Tmp} {a1 b1 : Code} {st4 : Nat} {p4 : Ex} {T4 : List AV} {ps4 : Array Tmp} {a4 b4 : Code}
    (hB : BaseC.has P (P.funcs.size + l) = false) (hl : H.get l = some (.loop st0 pend0 T ps ca cb)) (hlen : args.length = ps.size) (h1 : slimOk tblA ca = true) (e1 : execS P (callE P) (slim tblA ca) (setAll T (ps.toList.zip args), H) = some (.normal, s1)) (g1 : s1.2.get l = some (.loop 0 p1 T1 ps1 a1 b1))
    (h2 : slimOk tblB cb = true) (e2 : execS P (callE P) (slim tblB cb) (s1.1, s1.2.set l (.loop 1 p1 T1 ps1 a1 b1)) = some (e, s3)) (g3 : s3.2.get l = some (.loop st4 p4 T4 ps4 a4 b4)) :
    callE P (P.funcs.size + l) args H = some (.one (.bool (decide (e = .normal))), s3.2.set l (.loop (if e = .normal then 0 else 2) e T4 ps4 a4 b4)) := by
  obtain ⟨N1, hN1⟩ := execS_late h1 e1
  obtain ⟨N2, hN2⟩ := execS_late h2 e2
  refine callE_some.2 ⟨max N1 N2 + 1, ?_⟩
  unfold callA
  rw [hB, if_neg (by simp), Array.getElem?_eq_none (by omega)]
  simp only
  rw [if_pos (by omega), show P.funcs.size + l - P.funcs.size = l from by omega]
  unfold roundA
  rw [hl]
  simp only
  rw [if_pos hlen, hN1 (max N1 N2) (by omega)]
  simp only
  rw [g1]
  simp only
  rw [hN2 (max N1 N2) (by omega)]
  simp only
  rw [g3]
theorem round_wp {P : Program} [BaseC P] {eqs : List (TypeId × Nat)} (hf : Facts P eqs) {l N : Nat} {args : List AV} {H : AHeap} {st0 : Nat} {pend0 : Ex} {T : List AV} {t : Env} {ps : Array Tmp} {ca cb : Code} {ra rb : RC} (tblA tblB : List (Nat × List (Nat × Nat))) {K : AV → AHeap → Prop}
    (hB : BaseC.has P (P.funcs.size + l) = false) (hl : H.get l = some (.loop st0 pend0 T ps ca cb)) (hT : TR T t) (hN : T.length = N) (hps : ∀ p ∈ ps.toList, p < N) (hlen : args.length = ps.size) (h1 : slimOk tblA ca = true) (h2 : resC P eqs N (slim tblA ca) = some ra) (h3 : slimOk tblB cb = true) (h4 : resC P eqs N (slim tblB cb) = some rb)
    (k : wpC P ra (updAll t (ps.toList.zip args)) H fun e t1 H1 => e = .normal ∧ ∃ p1 T1 ps1 a1 b1, H1.get l = some (.loop 0 p1 T1 ps1 a1 b1) ∧ wpC P rb t1 (H1.set l (.loop 1 p1 T1 ps1 a1 b1)) fun e2 _ H2 => ∃ st4 p4 T4 ps4 a4 b4, H2.get l = some (.loop st4 p4 T4 ps4 a4 b4) ∧ K (.one (.bool (decide (e2 = .normal)))) (H2.set l (.loop (if e2 = .normal then 0 else 2) e2 T4 ps4 a4 b4))) :
    Run P (P.funcs.size + l) args H K := by
  have hT1 := setAll_TR hT (l := ps.toList.zip args) fun q hq => by rw [hN]; exact hps _ (List.of_mem_zip hq).1
  obtain ⟨e, tl', t', H', e1, a1, a2, rfl, p1, T1, ps1, ca1, cb1, g1, k2⟩ := wpC_sound hf hT1 (by rw [setAll_len, hN]) h2 k
  obtain ⟨e2, tl2, t2, H2, f1, b1, b2, st4, p4, T4, ps4, a4, b4, g4, hK⟩ := wpC_sound hf a1 a2 h4 k2
  exact ⟨_, _, roundE_of hB hl hlen h1 e1 g1 h3 f1 g4, hK⟩
structure LS where
  (T : List AV) (ps : Array Tmp) (a b : Code)
def LoopIs (H : AHeap) (l st : Nat) (e : Ex) (s : LS) : Prop := H.get l = some (.loop st e s.T s.ps s.a s.b)
theorem LoopIs.keep {S : Nat → Prop} {H H' : AHeap} {l st : Nat} {e : Ex} {s : LS} (h : LoopIs H l st e s) (k : Keep S H H') (hn : ¬ S l) : LoopIs H' l st e s := k.getS h hn
theorem LoopIs.kp {H H' : AHeap} {l st : Nat} {e : Ex} {s : LS} (h : LoopIs H l st e s) (k : Kp H H') : LoopIs H' l st e s := h.keep k id
theorem LoopIs.lt {H : AHeap} {l st : Nat} {e : Ex} {s : LS} (h : LoopIs H l st e s) : l < H.size := AHeap.get_lt h
def YieldT (P : Program) [BaseC P] (tys : List CT) (mk : Tup tys → List AV) (s : LS) (l : Nat) (R : Tup tys → (Ex → AHeap → Prop) → AHeap → Prop) : Prop :=
  ∀ (x : Tup tys) (e0 : Ex) (H : AHeap) (K : Bool → AHeap → Prop), LoopIs H l 0 e0 s →
    (∀ H1, Keep (fun y => y = l) H H1 → H1.size = H.size → LoopIs H1 l 1 e0 s → R x (fun e H2 => ∃ st e4, LoopIs H2 l st e4 s ∧ ∀ H3, Keep (fun y => y = l) H2 H3 → H3.size = H2.size → LoopIs H3 l (if e = .normal then 0 else 2) e s → K (decide (e = .normal)) H3) H1) →
    RunT P [(false, [.bool])] (P.funcs.size + l) (mk x) H fun H' b => K b H'
def RangeT (P : Program) [BaseC P] (tys : List CT) (mk : Tup tys → List AV) (c : AC) (H : AHeap) (R : Tup tys → (Ex → AHeap → Prop) → AHeap → Prop) (Kr : Ex → AHeap → Prop) : Prop :=
  ∃ g first caps, c = .fn g first caps ∧ g < P.funcs.size ∧ ∀ s : LS, YieldT P tys mk s H.size R → ∀ H0, Kp H H0 → H0.size = H.size + 1 → LoopIs H0 H.size 0 .normal s →
    Run P g (first.map (fun a => .one (.ptr (some a))) ++ [.one (.yield H.size)] ++ caps.map (fun a => .one (.ptr (some a)))) H0 fun _ H' => ∃ st e, LoopIs H' H.size st e s ∧ st ≠ 1 ∧ ∀ H3, Keep (fun y => y = H.size) H' H3 → H3.size = H'.size → Kr e H3
theorem Kp.pushLoop (H : AHeap) (st : Nat) (e : Ex) (T : List AV) (ps : Array Tmp) (a b : Code) : Kp H (H.push (.loop st e T ps a b)) := by
  refine ⟨by simp, fun b hb _ => by rw [AHeap.get_push, if_neg (by omega)], fun b hb _ => rfl, ⟨fun hw x e' g st ro cs' hx => ?_, fun hw x e' g st ro cs' hx => ?_⟩, fun x e' g st ro cs' hx hg _ => ?_⟩
  · rw [AHeap.get_push] at hx
    split at hx
    · cases hx
    · exact hw _ _ _ _ _ _ hx
  · refine hw x e' g st ro cs' ?_
    have := AHeap.get_lt hx
    rw [AHeap.get_push, if_neg (by omega)]
    exact hx
  · rw [AHeap.get_push] at hx
    split at hx
    · cases hx
    · exact ⟨_, _, _, _, hx⟩
theorem c_range {P : Program} [BaseC P] {eqs : List (TypeId × Nat)} (hf : Facts P eqs) (hB : ∀ f, P.funcs.size ≤ f → BaseC.has P f = false) {tys : List CT} {mk : Tup tys → List AV} {c : AC} {t : Env} {N : Nat} {ps : Array Tmp} {ca cb : Code} {ra rb : RC} (tblA tblB : List (Nat × List (Nat × Nat))) {H : AHeap} {R : Tup tys → (Ex → AHeap → Prop) → AHeap → Prop} {Kr : Ex → AHeap → Prop} {K : Ex → Env → AHeap → Prop} {f : RV}
    (hev : evR t f = .one c) (hps : ∀ p ∈ ps.toList, p < N) (hlen : ∀ x, (mk x).length = ps.size) (h1 : slimOk tblA ca = true) (h2 : resC P eqs N (slim tblA ca) = some ra) (h3 : slimOk tblB cb = true) (h4 : resC P eqs N (slim tblB cb) = some rb)
    (hA : ∀ x H (J : Env → AHeap → Prop), J (updAll t (ps.toList.zip (mk x))) H → ∃ t1, (∀ J : Env → AHeap → Prop, J t1 H → wpC P ra (updAll t (ps.toList.zip (mk x))) H fun e t2 H2 => e = .normal ∧ J t2 H2) ∧ ∀ (KR : Ex → AHeap → Prop) (Kt : Ex → Env → AHeap → Prop) H, (∀ e t H, KR e H → Kt e t H) → R x KR H → wpC P rb t1 H Kt)
    (hK : ∀ e H, Kr e H → K e t H) : RangeT P tys mk c H R Kr → wpC P (.rangeF f N ps ca cb) t H K := by
  rintro ⟨g, first, caps, rfl, hg, q⟩
  simp only [wpC, hev]
  refine ⟨g, first, caps, rfl, hg, fun T hN hT => ?_⟩
  have hget : LoopIs (H.push (.loop 0 .normal T ps ca cb)) H.size 0 .normal ⟨T, ps, ca, cb⟩ := by
    unfold LoopIs
    rw [AHeap.get_push, if_pos rfl]
  have hY : YieldT P tys mk ⟨T, ps, ca, cb⟩ H.size R := by
    intro x e0 H1 K1 hl hr
    have hl' : H1.get H.size = some (.loop 0 e0 T ps ca cb) := hl
    refine round_wp hf tblA tblB (hB _ (by omega)) hl' hT hN hps (hlen x) h1 h2 h3 h4 ?_
    obtain ⟨t1, a1, a2⟩ := hA x H1 (fun _ _ => True) trivial
    refine a1 _ ⟨_, _, _, _, _, hl', ?_⟩
    have k1 : Keep (fun y => y = H.size) H1 (H1.set H.size (.loop 1 e0 T ps ca cb)) := Keep.set hl' trivial
    have hq := hr _ k1 rfl (by unfold LoopIs; rw [AHeap.get_set, if_pos ⟨rfl, AHeap.get_lt hl'⟩])
    refine a2 _ _ _ ?_ hq
    rintro e2 t2 H2 ⟨st, e4, hl2, hk⟩
    have hl2' : H2.get H.size = some (.loop st e4 T ps ca cb) := hl2
    refine ⟨_, _, _, _, _, _, hl2', ?_⟩
    refine ⟨(decide (e2 = .normal), ()), rfl, hk _ (Keep.set hl2' trivial) rfl ?_⟩
    unfold LoopIs
    rw [AHeap.get_set, if_pos ⟨rfl, AHeap.get_lt hl2'⟩]
  obtain ⟨v, H', hrun, st, e, hl, hst, hk⟩ := q ⟨T, ps, ca, cb⟩ hY _ (Kp.pushLoop _ _ _ _ _ _ _) (by simp) hget
  have hl' : H'.get H.size = some (.loop st e T ps ca cb) := hl
  exact ⟨v, H', hrun, st, e, _, _, _, _, hl', hst, hK _ _ (hk _ (Keep.set hl' trivial) rfl)⟩
end Go.AI
end
section
namespace Go.Proofs.Ytanaaabejeeakaa
open Go.AI Go.Lib
noncomputable def apR : Array Tmp × Code × Code := match Try.f101.body with
  | some (.seq _ (.seq (.seq _ (.block _ (.rangeFunc _ ps a b))) _)) => (ps, a, b)
  | _ => (#[], .skip, .skip)
noncomputable def ap.ca : RC := .ops [.put 5 (.mov (.tm 7))]
noncomputable def ap.cb : RC := .block 1 (.ops [.put 8 (.ld false [.ac] (.tm 2)), .put 9 (.mov (.tm 5)), .put 10 (.blds 3 1 1 [(.int .i64 0)] [(0, 1, (.tm 9))]), .put 11 (.app 3 1 8 (.tm 8) (.tm 10)), .run (.st 1 (.tm 2) (.tm 11))])
noncomputable def ap.c : RC := .seq (.ops [.put 2 (.box 53 (.tm 0)), .put 4 (.mov (.ct (.one (.sl none 0 0 (some 0)))))]) (.seq (.seq (.ops [.put 6 (.mov (.tm 1))]) (.block 0 (.rangeF (.tm 6) 13 apR.1 apR.2.1 apR.2.2))) (.seq (.ops [.put 12 (.ld false [.ac] (.tm 2)), .put 4 (.mov (.tm 12))]) .ret))
theorem ap.slimOk : AI.slimOk [] (Try.f101.body.getD .skip) = true := by kernel_rfl
theorem ap.resC : AI.resC Try.prog aggs Try.f101.ntmps (slim [] (Try.f101.body.getD .skip)) = some ap.c := by kernel_rfl
theorem ap.resR : AI.resR Try.prog Try.f101.results.toList = some [.tm 4] := by kernel_rfl
theorem ap.bodyEq : Try.f101.body = some (Try.f101.body.getD .skip) := by kernel_rfl
theorem ap.aOk : AI.slimOk [] apR.2.1 = true := by kernel_rfl
theorem ap.aRes : AI.resC Try.prog aggs 13 (slim [] apR.2.1) = some ap.ca := by kernel_rfl
theorem ap.bOk : AI.slimOk [] apR.2.2 = true := by kernel_rfl
theorem ap.bRes : AI.resC Try.prog aggs 13 (slim [] apR.2.2) = some ap.cb := by kernel_rfl
theorem ap.ps : apR.1 = #[7] := by kernel_rfl
theorem size_try : Try.prog.funcs.size = 148 := by kernel_rfl
theorem told_none (f : Nat) (h : Try.prog.funcs.size ≤ f) : BaseC.has Try.prog f = false := by
  rw [size_try] at h
  show (Nat.beq f 87 || Nat.beq f 69) = false
  rw [Bool.or_eq_false_iff]
  constructor <;> (cases hb : Nat.beq f _ with
    | false => rfl
    | true => have := Nat.eq_of_beq_eq_true hb; omega)
def ap.R (p : AC) (x : Tup [.int .i64]) (KR : Ex → AHeap → Prop) (H : AHeap) : Prop :=
  Ld [.ac] H p fun (v_1 : AC) =>
  NewS 3 1 1 [(.int .i64 x.1)] H fun p_2 H_3 =>
  App 3 1 8 v_1 p_2 H_3 fun s_4 H_5 =>
  Sto H_5 p [s_4] fun H_6 =>
  KR .normal H_6
def ap.W (a0 a1 : AC) (H : AHeap) (Q : AHeap → AC → Prop) : Prop :=
  New 53 [a0] H fun p_1 H_2 =>
  RangeT Try.prog [.int .i64] (fun x => [.one (.int .i64 x.1)]) a1 H_2 (ap.R p_1) fun e H_3 =>
  e = .normal ∧ Ld [.ac] H_3 p_1 fun (v_4 : AC) =>
  Q H_3 v_4
theorem ap.rnd {p_1 : AC} {t : Env} (h2 : t 2 = .one p_1) (x : Tup [.int .i64]) (KR : Ex → AHeap → Prop) (Kt : Ex → Env → AHeap → Prop) (H : AHeap) (hK : ∀ e t H, KR e H → Kt e t H) :
    ap.R p_1 x KR H → wpC Try.prog ap.cb (upd (upd t 7 (.one (.int .i64 x.1))) 5 (.one (.int .i64 x.1))) H Kt := by
  refine c_blk (c_ops (s_cons (w_put (o_ld1 h2 fun v_1 => ?_))))
  refine s_cons (w_put (o_mov rfl (s_cons (w_put (o_blds rfl fun p_2 H_3 => ?_)))))
  refine s_cons (w_put (o_app rfl rfl fun s_4 H_5 => ?_))
  exact s_cons (w_run (o_st h2 rfl rfl fun H_6 => s_nil (k_blk (hK _ _ _))))
theorem ap.rng {p_1 a1 : AC} {t : Env} {H : AHeap} {K : Ex → Env → AHeap → Prop} {Kr : Ex → AHeap → Prop} (h2 : t 2 = .one p_1) (h6 : t 6 = .one a1) (hK : ∀ e H, Kr e H → K e t H) :
    RangeT Try.prog [.int .i64] (fun x => [.one (.int .i64 x.1)]) a1 H (ap.R p_1) Kr → wpC Try.prog (.rangeF (.tm 6) 13 apR.1 apR.2.1 apR.2.2) t H K :=
  c_range aggs_ok told_none [] [] h6 (by rw [ap.ps]; intro p hp; simp at hp; rw [hp]; decide) (fun x => by rw [ap.ps]; rfl) ap.aOk ap.aRes ap.bOk ap.bRes
    (by
      rw [ap.ps]
      intro x H3 J _
      exact ⟨upd (upd t 7 (.one (.int .i64 x.1))) 5 (.one (.int .i64 x.1)), fun J hJ => c_ops (s_cons (w_put (o_mov rfl (s_nil fun h => ⟨rfl, h⟩)))) hJ, ap.rnd h2 x⟩)
    hK
theorem ap.ok {a0 a1 : AC} {H : AHeap} (Q : AHeap → AC → Prop) : ap.W a0 a1 H Q → wpF Try.prog ap.c [.tm 4] (envOf [(.one a0), (.one a1)]) H (fun v H => ∃ xs : Tup (flat [(false, [.ac])]), v = joinR (splitP [(false, [.ac])] (cellsOf (flat [(false, [.ac])]) xs)) ∧ app (flat [(false, [.ac])]) (Q H) xs) := by
  refine c_seq (c_ops (s_cons (w_put (o_box rfl fun p_1 H_2 => ?_))))
  refine s_cons (w_put (o_mov rfl (s_nil (k_seq ?_))))
  refine c_seq (c_seq (c_ops (s_cons (w_put (o_mov rfl (s_nil (k_seq ?_)))))))
  refine c_blk (ap.rng rfl rfl ?_)
  rintro e H3 ⟨rfl, h⟩
  refine k_blk (k_seq ?_) h
  refine c_seq (c_ops (s_cons (w_put (o_ld1 rfl fun v_4 => ?_))))
  exact s_cons (w_put (o_mov rfl (s_nil (k_seq (c_ret (k_topR (r_one rfl (r_nil fun h => ⟨(v_4, ()), rfl, h⟩))))))))
theorem ap.run {a0 a1 : AC} {H : AHeap} {Q : AHeap → AC → Prop} (h : ap.W a0 a1 H Q) : RunT Try.prog [(false, [.ac])] 101 [(.one a0), (.one a1)] H Q := by
  unfold RunT
  exact run_of aggs_ok [] rfl Try.func101 ap.bodyEq ap.slimOk ap.resC ap.resR (Nat.le_of_ble_eq_true (by kernel_rfl)) (ap.ok Q h)
end Go.Proofs.Ytanaaabejeeakaa
end
section
namespace Go.Proofs.Ytanaaabejeeakaa
open Go.AI Go.Lib
theorem lt93 : 93 < Try.prog.funcs.size := (Array.getElem?_eq_some_iff.1 Try.func93).1
theorem append_c {bx : Nat} {s : AC} {l : List Int} {H : AHeap} (hb : Own H bx [s]) (hs : SlR H s 1 (iRows l)) (hl : l.length < 4611686018427387904) (hl2 : l.length * 8 + 8 ≤ 140737488355328) :
    RunT Try.prog [(false, [.ac])] 101 [(.one (.sl none 0 0 (some 0))), (.one (.fn 93 [] [(bx, 0)]))] H fun H' q => (∃ F, OwnS H' q 1 F (iRows l) ∧ ∀ y, F y → H.size ≤ y) ∧ Kp H H' := by
  have hll := iRows_len l
  refine ap.run ?_
  unfold ap.W
  refine New.own fun b1 H1 hb1 hs1 o1 k1 => ?_
  refine ⟨93, [], [(bx, 0)], rfl, lt93, fun sl hY H0 k0 hs0 hl0 => ?_⟩
  have kk0 := k1.trans k0
  suffices hrun : Fn.Z11 (.yield H1.size) (.ptr (some (bx, 0))) H0 fun H' => ∃ st e, LoopIs H' H1.size st e sl ∧ st ≠ 1 ∧ ∀ H3, Keep (fun y => y = H1.size) H' H3 → H3.size = H'.size → (e = .normal ∧ Ld [.ac] H3 (.ptr (some (b1, 0))) fun (v : AC) => (∃ F, OwnS H3 v 1 F (iRows l) ∧ ∀ y, F y → H.size ≤ y) ∧ Kp H H3) by
    refine Run.mono ?_ hrun
    rintro v H' ⟨_, _, h⟩
    exact h
  refine Z11.run ?_
  unfold Z11.W
  refine Ld.oc (hb.kp kk0) rfl (LenS.of (hs.kp kk0) ?_)
  rw [hll]
  unfold Z11.l3
  refine LoopT.rule (fun m s0 H2 => ∃ (i : Nat) (out : AC) (F : Nat → Prop), i ≤ l.length ∧ m = l.length - i ∧ s0 = (.yield H1.size, s, (l.length : Int), (i : Int), ()) ∧ Kp H H2 ∧ LoopIs H2 H1.size 0 .normal sl ∧ Own H2 b1 [out] ∧ OwnS H2 out 1 F (iRows (l.take i)) ∧ ∀ y, F y → H1.size < y) l.length
    ⟨0, _, fun _ => False, by omega, by omega, rfl, kk0, hl0, o1.kp k0, by simpa [iRows] using OwnS.nil H0 1, fun y h => h.elim⟩ ?_
  rintro m s0 H2 back ⟨i, out, F, hi, rfl, rfl, k2, hlp, ob, ho, hF⟩ hback
  simp only [Z11.b3]
  refine CondB.dec (fun hlt => ?_) fun hge => ?_
  · have hi' : i < l.length := by omega
    obtain ⟨v, hv⟩ : ∃ b, l[i]? = some b := ⟨_, List.getElem?_eq_getElem hi'⟩
    refine IA.of (r := [AC.int .i64 v]) (hs.kp k2) (by omega) (by rw [Int.toNat_natCast]; unfold iRows; rw [List.getElem?_map, hv]; rfl) fun b o hld => Ld.a1 hld v rfl rfl ?_
    refine CVT.yield (hY (v, ()) .normal H2 _ hlp fun H3 k3 hs3 hl3 => ?_)
    have ob3 := ob.keep k3 (show ¬ b1 = H1.size by omega)
    have ho3 := ho.keep k3 fun y e h => by have := hF y h; have e' : y = H1.size := e; omega
    have hz2 := k2.size
    have hlt2 := hlp.lt
    have hb2 := ob.lt
    unfold ap.R
    refine Ld.oc ob3 rfl (NewS.own fun b4 H4 hb4 hs4 o4 k4 => ?_)
    have hlen : (iRows (l.take i)).length = i := by rw [iRows_len, List.length_take]; omega
    refine App.own (ho3.kp k4) (r := [AC.int .i64 v]) ⟨b4, _, rfl, o4.all⟩ rfl (by rw [hlen]; omega) (by rw [hlen]; omega) fun out' H5 ho5 k5 hs5 => ?_
    have hFn : ∀ y, F y → y ≠ b1 ∧ y ≠ H1.size := fun y h => by have := hF y h; omega
    refine Sto.own ((ob3.kp k4).keep k5 fun h => (hFn _ h).1 rfl) (Nat.le_refl 1) fun H6 o6 k6 hs6 => ?_
    have hlp6 : LoopIs H6 H1.size 1 .normal sl := ((hl3.kp k4).keep k5 fun h => (hFn _ h).2 rfl).keep k6 (show ¬ H1.size = b1 by omega)
    refine ⟨_, _, hlp6, fun H7 k7 hs7 hl7 => CondB.neg rfl ?_⟩
    have hk : Kp H H7 := ((((k2.fresh k3 fun y e => by have e' : y = H1.size := e; omega).trans k4).fresh k5 fun y h => by have := hF y h; omega).fresh k6 fun y e => by have e' : y = b1 := e; omega).fresh k7 fun y e => by have e' : y = H1.size := e; omega
    refine hback (l.length - (i + 1)) _ _ (by omega) ⟨i + 1, out', fun y => F y ∨ y = H4.size, by omega, rfl, ?_, hk, hl7, o6.keep k7 (show ¬ b1 = H1.size by omega), ?_, fun y h => h.elim (hF y) fun e => by omega⟩
    · exact tc rfl (tc rfl (tc rfl (tc ((wrap64 (by omega) (by omega)).trans (by omega)) rfl)))
    · have e : iRows (l.take (i + 1)) = iRows (l.take i) ++ [[AC.int .i64 v]] := by
        unfold iRows
        rw [List.take_add_one, List.map_append, hv]
        rfl
      rw [e]
      have h6 := ho5.keep k6 fun y e h => by
        have e' : y = b1 := e
        rcases h with h | h
        · exact (hFn y h).1 e'
        · omega
      exact h6.keep k7 fun y e h => by
        have e' : y = H1.size := e
        rcases h with h | h
        · exact (hFn y h).2 e'
        · omega
  · have hil : i = l.length := by omega
    subst hil
    rw [List.take_of_length_le (Nat.le_refl _)] at ho
    refine ⟨0, .normal, hlp, by omega, fun H3 k3 hs3 => ⟨rfl, ?_⟩⟩
    have hz2 := k2.size
    refine Ld.oc (ob.keep k3 (show ¬ b1 = H1.size by omega)) rfl ⟨⟨F, ho.keep k3 fun y e h => by have := hF y h; have e' : y = H1.size := e; omega, fun y h => by have := hF y h; omega⟩, k2.fresh k3 fun y e => by have e' : y = H1.size := e; omega⟩
theorem Sorted_c {bx : Nat} {s : AC} {l : List Int} {H : AHeap} (hb : Own H bx [s]) (hs : SlR H s 1 (iRows l)) (hw : GW H) (hl : l.length < 4611686018427387904) (hl2 : l.length * 8 + 8 ≤ 140737488355328) :
    Fn.Z9 (.fn 93 [] [(bx, 0)]) H fun H' q => (∃ F, OwnS H' q 1 F (iRows (sortI l)) ∧ ∀ y, F y → H.size ≤ y) ∧ Kp H H' := by
  refine Z9.run ?_
  unfold Z9.W
  refine RunT.imp ?_ (Z3.run (Q := fun H' q => (∃ F, OwnS H' q 1 F (iRows l) ∧ ∀ y, F y → H.size ≤ y) ∧ Kp H H') ?_)
  · rintro H1 (q : AC) ⟨⟨F, ho, hF⟩, k1⟩
    refine RunT.imp ?_ (Sort_o ho (k1.gw.1 hw) hl)
    rintro H2 ⟨ho2, k2⟩
    exact ⟨⟨F, ho2, hF⟩, k1.fresh k2 hF⟩
  · unfold Z3.W
    exact append_c hb hs hl hl2
end Go.Proofs.Ytanaaabejeeakaa
end
section
namespace Go.AI
open DT
def fixT (v : Nat) (b : Bool) : DT → DT
  | leaf c => leaf c
  | nd w l h => if v < w then nd w l h else if w = v then (if b then h else l) else DT.mk w (fixT v b l) (fixT v b h)
def setA (ρ : Nat → Bool) (v : Nat) (b : Bool) : Nat → Bool := fun w => if w = v then b else ρ w
theorem eval_above {v : Nat} {b : Bool} {ρ : Nat → Bool} : ∀ x : DT, x.RO → v < x.top → x.eval (setA ρ v b) = x.eval ρ
  | leaf _, _, _ => rfl
  | nd w l h, ⟨_, _, t1, t2, r1, r2⟩, ht => by
    simp only [top] at ht
    have : setA ρ v b w = ρ w := by unfold setA; rw [if_neg (by omega)]
    simp only [eval]
    rw [this, eval_above l r1 (by omega), eval_above h r2 (by omega)]
theorem fixT_spec {v : Nat} {b : Bool} : ∀ x : DT, x.RO → (fixT v b x).RO ∧ x.top ≤ (fixT v b x).top ∧ ∀ ρ, (fixT v b x).eval ρ = x.eval (setA ρ v b)
  | leaf c, h => ⟨trivial, Nat.le_refl _, fun _ => rfl⟩
  | nd w l h, hx => by
    have hx0 := hx
    obtain ⟨hw, hne, t1, t2, r1, r2⟩ := hx
    simp only [fixT]
    split
    · next hlt =>
      exact ⟨hx0, Nat.le_refl _, fun ρ => (eval_above _ hx0 (show v < w from hlt)).symm⟩
    · next hge =>
      split
      · next he =>
        subst he
        have hs : ∀ ρ, setA ρ w b w = b := fun ρ => by unfold setA; rw [if_pos rfl]
        cases b with
        | true =>
          refine ⟨r2, show w ≤ h.top by omega, fun ρ => ?_⟩
          simp only [if_true, eval, hs]
          exact (eval_above h r2 t2).symm
        | false =>
          refine ⟨r1, show w ≤ l.top by omega, fun ρ => ?_⟩
          simp only [Bool.false_eq_true, if_false, eval, hs]
          exact (eval_above l r1 t1).symm
      · next hne2 =>
        obtain ⟨a1, a2, a3⟩ := fixT_spec (v := v) (b := b) l r1
        obtain ⟨b1, b2, b3⟩ := fixT_spec (v := v) (b := b) h r2
        refine ⟨mk_RO hw (by omega) (by omega) a1 b1, show w ≤ _ from mk_top (by omega), fun ρ => ?_⟩
        rw [mk_eval, a3, b3]
        have : setA ρ v b w = ρ w := by unfold setA; rw [if_neg hne2]
        simp only [eval, this]
end Go.AI
end
section
namespace Go.Proofs.Ytanaaabejeeakaa
open Go.AI Go.AI.DT
theorem lt89 : 89 < Try.prog.funcs.size := (Array.getElem?_eq_some_iff.1 Try.func89).1
structure XP where
  (mb vb nb sb bb nm : Nat)
def XP.loc (p : XP) (y : Nat) : Prop := y = p.mb ∨ y = p.vb ∨ y = p.nb ∨ y = p.sb ∨ y = p.bb ∨ y = p.nm
def FixOk (v : Nat) (b : Bool) (ts : List DT) (es : List (List Int × Int)) : Prop := ∀ k n, findI k es = some n → ∃ y, In ts y ∧ k = [ref ts y] ∧ In ts (fixT v b y) ∧ n = ref ts (fixT v b y)
theorem FixOk.mono {v : Nat} {b : Bool} {ts ts' : List DT} {es : List (List Int × Int)} (h : FixOk v b ts es) (hp : ts <+: ts') : FixOk v b ts' es := by
  intro k n hk
  obtain ⟨y, h1, h2, h3, h4⟩ := h k n hk
  exact ⟨y, h1.mono hp, by rw [h2, ref_mono h1 hp], h3.mono hp, by rw [h4, ref_mono h3 hp]⟩
theorem FixOk.set {v : Nat} {b : Bool} {ts : List DT} {es : List (List Int × Int)} (h : FixOk v b ts es) {y : DT} (h1 : In ts y) (h3 : In ts (fixT v b y)) : FixOk v b ts (setI [ref ts y] (ref ts (fixT v b y)) es) := by
  intro k n hk
  rw [findI_set] at hk
  split at hk
  · next e => simp only [Option.some.injEq] at hk; exact ⟨y, h1, e.symm, h3, hk.symm⟩
  · exact h k n hk
structure XS (H : AHeap) (m : AC) (F : Nat → Prop) (ts : List DT) (p : XP) (v : Nat) (b : Bool) (es : List (List Int × Int)) : Prop where
  mgr : Mgr H m F ts
  o1 : Own H p.mb [m]
  o2 : Own H p.vb [.int .i64 (v : Int)]
  o3 : Own H p.nb [.map (some p.nm)]
  o4 : Own H p.sb [.fn 89 [] [(p.mb, 0), (p.vb, 0), (p.nb, 0), (p.sb, 0), (p.bb, 0)]]
  o5 : Own H p.bb [.int .i64 (if b then 1 else 0)]
  mp : MapI H p.nm none es
  eok : FixOk v b ts es
  d : ∀ y, F y → ¬ p.loc y
  ne : p.nm ≠ p.mb ∧ p.nm ≠ p.vb ∧ p.nm ≠ p.nb ∧ p.nm ≠ p.sb ∧ p.nm ≠ p.bb
theorem XS.lt {H : AHeap} {m : AC} {F : Nat → Prop} {ts : List DT} {p : XP} {v : Nat} {b : Bool} {es : List (List Int × Int)} (h : XS H m F ts p v b es) : ∀ y, p.loc y → y < H.size := by
  rintro y (e | e | e | e | e | e) <;> rw [e]
  · exact h.o1.lt
  · exact h.o2.lt
  · exact h.o3.lt
  · exact h.o4.lt
  · exact h.o5.lt
  · exact h.mp.lt
theorem XS.kp {H H' : AHeap} {m : AC} {F : Nat → Prop} {ts : List DT} {p : XP} {v : Nat} {b : Bool} {es : List (List Int × Int)} (h : XS H m F ts p v b es) (k : Kp H H') : XS H' m F ts p v b es :=
  ⟨h.mgr.kp k, h.o1.kp k, h.o2.kp k, h.o3.kp k, h.o4.kp k, h.o5.kp k, h.mp.kp k, h.eok, h.d, h.ne⟩
theorem XS.grow {H H' : AHeap} {m : AC} {F F' : Nat → Prop} {ts ts' : List DT} {p : XP} {v n : Nat} {b : Bool} {es : List (List Int × Int)} (h : XS H m F ts p v b es) (a : After H m F ts n H' F' ts') : XS H' m F' ts' p v b es := by
  have hn : ∀ y, p.loc y → ¬ F y := fun y hl hF => h.d y hF hl
  refine ⟨a.mgr, h.o1.keep a.keep (hn _ (.inl rfl)), h.o2.keep a.keep (hn _ (.inr (.inl rfl))), h.o3.keep a.keep (hn _ (.inr (.inr (.inl rfl)))), h.o4.keep a.keep (hn _ (.inr (.inr (.inr (.inl rfl))))), h.o5.keep a.keep (hn _ (.inr (.inr (.inr (.inr (.inl rfl)))))), h.mp.keep a.keep (hn _ (.inr (.inr (.inr (.inr (.inr rfl)))))), h.eok.mono a.pre, fun y hy hl => ?_, h.ne⟩
  rcases a.fresh y hy with hy | hy
  · exact h.d y hy hl
  · have := h.lt y hl; omega
structure XPost (H : AHeap) (m : AC) (F : Nat → Prop) (ts : List DT) (p : XP) (v : Nat) (b : Bool) (n : Nat) (x : DT) (H' : AHeap) (q : Int) : Prop where
  ex : ∃ F' ts' es', XS H' m F' ts' p v b es' ∧ ts <+: ts' ∧ ts'.length ≤ ts.length + n ∧ Keep (fun y => F y ∨ y = p.nm) H H' ∧ (∀ y, F' y → F y ∨ H.size ≤ y) ∧ In ts' (fixT v b x) ∧ q = ref ts' (fixT v b x)
theorem fixed_m {m : AC} {p : XP} {v : Nat} {b : Bool} (hv : v < 16) : ∀ (x : DT) {H : AHeap} {F : Nat → Prop} {ts : List DT} {es : List (List Int × Int)}, In ts x → XS H m F ts p v b es → ts.length + 2 ^ (16 - x.top) ≤ 4294967296 →
    Fn.Z31 (ref ts x) (.ptr (some (p.mb, 0))) (.ptr (some (p.vb, 0))) (.ptr (some (p.nb, 0))) (.ptr (some (p.sb, 0))) (.ptr (some (p.bb, 0))) H fun H' q => XPost H m F ts p v b (2 ^ (16 - x.top) - 1) x H' q := by
  intro x
  induction x with
  | leaf c =>
    intro H F ts es hx hs hlen
    refine Z31.run ?_
    unfold Z31.W
    refine CondB.pos (by rw [decide_eq_true_iff]; exact ref_leaf.2 ⟨c, rfl⟩) ?_
    unfold Z31.p5
    exact CondB.pos rfl ⟨F, ts, es, hs, List.prefix_rfl, by omega, Keep.refl _ _, fun y h => .inl h, hx, rfl⟩
  | nd w l h ihl ihh =>
    intro H F ts es hx hs hlen
    have h0 : 0 ≤ ref ts (nd w l h) := by rw [ref_ge]; omega
    have hg := ref_get hx h0
    have hfin := hs.mgr.fin
    obtain ⟨hinl, hinh, hro⟩ : In ts l ∧ In ts h ∧ (nd w l h).RO := by
      have hxm : nd w l h ∈ ts := hx.elim (fun ⟨b, e⟩ => by cases e) id
      obtain ⟨_, _, _, e0, a1, a2, a3⟩ := hfin.parts _ hxm
      cases e0
      exact ⟨a1, a2, a3⟩
    obtain ⟨hw, hne, t1, t2, r1, r2⟩ := hro
    have tl := top_le l r1
    have th := top_le h r2
    have e16 : 16 - (nd w l h).top = (16 - (w + 1)) + 1 := by simp only [top]; omega
    have hpow : 2 ^ (16 - (nd w l h).top) = 2 ^ (16 - (w + 1)) * 2 := by rw [e16, Nat.pow_succ]
    have hpl : 2 ^ (16 - l.top) ≤ 2 ^ (16 - (w + 1)) := Nat.pow_le_pow_right (by omega) (by omega)
    have hph : 2 ^ (16 - h.top) ≤ 2 ^ (16 - (w + 1)) := Nat.pow_le_pow_right (by omega) (by omega)
    have hp1 : 0 < 2 ^ (16 - (w + 1)) := Nat.two_pow_pos _
    obtain ⟨Z, hZ⟩ : ∃ Z, Z = 2 ^ (16 - (w + 1)) := ⟨_, rfl⟩
    rw [← hZ] at hpow hpl hph hp1
    rw [hpow] at hlen ⊢
    refine Z31.run ?_
    unfold Z31.W
    refine CondB.neg (by rw [decide_eq_false_iff_not]; omega) (Ld.oc hs.o1 rfl (RunT.imp ?_ (top_c hs.mgr hx)))
    rintro H1 (t : Int) ⟨rfl, e1⟩
    obtain rfl : H = H1 := e1.symm
    refine Ld.oi hs.o2 rfl ⟨Same2.mk rfl, ?_⟩
    unfold Z31.p5
    refine CondB.dec (fun hgt => ?_) fun hle => ?_
    · have hlt : v < w := by simp only [top] at hgt; omega
      have e : fixT v b (nd w l h) = nd w l h := by simp only [fixT]; rw [if_pos hlt]
      exact ⟨F, ts, es, hs, List.prefix_rfl, by omega, Keep.refl _ _, fun y h => .inl h, by rw [e]; exact hx, by rw [e]⟩
    have hwv : ¬ v < w := by simp only [top] at hle; omega
    refine Ld.oc hs.o3 rfl (Look.i hs.mp rfl (fun n hf => ?_) fun hf => ?_)
    · obtain ⟨y, g1, g2, g3, g4⟩ := hs.eok _ _ hf
      have : nd w l h = y := ref_inj hx g1 (by simpa using g2)
      subst this
      exact CondB.pos rfl ⟨F, ts, es, hs, List.prefix_rfl, by omega, Keep.refl _ _, fun y h => .inl h, g3, g4⟩
    -- the end: the answer is laid down
    have fin : ∀ (H3 : AHeap) (F3 : Nat → Prop) (ts3 : List DT) (es3 : List (List Int × Int)), XS H3 m F3 ts3 p v b es3 → ts <+: ts3 → ts3.length ≤ ts.length + (Z * 2 - 1) → Keep (fun y => F y ∨ y = p.nm) H H3 → (∀ y, F3 y → F y ∨ H.size ≤ y) → In ts3 (fixT v b (nd w l h)) →
        Z31.p37 (fun H' q => XPost H m F ts p v b (Z * 2 - 1) (nd w l h) H' q) (ref ts (nd w l h)) (.ptr (some (p.nb, 0))) (ref ts3 (fixT v b (nd w l h))) H3 := by
      intro H3 F3 ts3 es3 hs3 hp hl3 k3 fr3 hin
      unfold Z31.p37
      refine Ld.oc hs3.o3 rfl (MSet.i hs3.mp rfl fun H4 mp4 k4 hs4 => ?_)
      have hnF : ∀ y, y = p.nm → ¬ F3 y := fun y e hF => hs3.d y hF (.inr (.inr (.inr (.inr (.inr e)))))
      refine ⟨F3, ts3, _, ⟨hs3.mgr.keep k4 hnF, hs3.o1.keep k4 (fun e => hs3.ne.1 e.symm), hs3.o2.keep k4 (fun e => hs3.ne.2.1 e.symm), hs3.o3.keep k4 (fun e => hs3.ne.2.2.1 e.symm), hs3.o4.keep k4 (fun e => hs3.ne.2.2.2.1 e.symm), hs3.o5.keep k4 (fun e => hs3.ne.2.2.2.2 e.symm), mp4, ?_, hs3.d, hs3.ne⟩, hp, hl3, Keep.trans k3 k4 fun y _ e => .inr e, fr3, hin, rfl⟩
      have := hs3.eok.set (hx.mono hp) hin
      rwa [ref_mono hx hp] at this
    refine CondB.neg rfl (Ld.oc hs.o1 rfl ?_)
    have node : ∀ {k : AC → Prop}, (∀ b o, H.load (b, o) 3 = some (nodeCells (row ts (nd w l h))) → k (.ptr (some (b, o)))) → NN m (FA 0 m fun q => Ld [.ac] H q fun (vv : AC) => IA 3 vv (ref ts (nd w l h)) k) := by
      intro k hk
      obtain ⟨mb, ib, db, Fs, slc, idx, done, hx'⟩ := hs.mgr
      obtain rfl := hx'.m_eq
      exact NN.ptr (FA.mk (Ld.oc hx'.own rfl (IA.of hx'.sl.slr h0 (r := nodeCells (row ts (nd w l h))) (by simp [hg]) fun b o hld => hk b o hld)))
    refine node fun bb o hld => Ld.a3 hld (w : Int) (ref ts l) (ref ts h) rfl rfl ?_
    refine NewSto.own rfl fun b3 H3 hb3 hs3' o3 k3 => FA.mk (Ld.oi o3 rfl (FA.mk (Ld.oi o3 rfl (Ld.oi (hs.o2.kp k3) rfl ?_))))
    have hs3 := hs.kp k3
    have hz3 := k3.size
    have hxlt := hs.lt
    have hFlt := hs.mgr.lt
    refine CondB.dec (fun hlt => ?_) fun hge => ?_
    · have hwv2 : w < v := by omega
      have hfe : fixT v b (nd w l h) = DT.mk w (fixT v b l) (fixT v b h) := by simp only [fixT]; rw [if_neg (by omega), if_neg (by omega)]
      refine Ld.oc hs3.o4 rfl (FA.mk (Ld.oi o3 rfl ?_))
      refine CVT.imp ?_ (CVT.mk lt89 (ihl hinl hs3 (by omega)))
      rintro H5 (q : Int) ⟨F5, ts5, es5, hs5, p5, l5, k5, fr5, in5, rfl⟩
      have hn3 : ¬ (F b3 ∨ b3 = p.nm) := by
        rintro (h | h)
        · have := hFlt b3 h; omega
        · have := hxlt p.nm (.inr (.inr (.inr (.inr (.inr rfl))))); omega
      have o35 := o3.keep k5 hn3
      have hz5 := k5.size
      have o1m := hs5.o1
      refine Ld.oc o1m rfl (FA.mk (Ld.oi o35 rfl (Ld.oc hs5.o4 rfl (FA.mk (Ld.oi o35 rfl ?_)))))
      rw [← ref_mono hinh p5]
      refine CVT.imp ?_ (CVT.mk lt89 (ihh (hinh.mono p5) hs5 (by omega)))
      rintro H6 (q : Int) ⟨F6, ts6, es6, hs6, p6, l6, k6, fr6, in6, rfl⟩
      have o36 : Own H6 b3 [.int .i64 (w : Int), .int .i64 (ref ts l), .int .i64 (ref ts h)] := o35.keep k6 (by
        rintro (h | h)
        · rcases fr5 b3 h with h | h
          · have := hFlt b3 h; omega
          · have := o3.lt; omega
        · have := hxlt p.nm (.inr (.inr (.inr (.inr (.inr rfl))))); omega)
      have in5' := in5.mono p6
      rw [← ref_mono in5 p6]
      have sl := fixT_spec (v := v) (b := b) l r1
      have sh := fixT_spec (v := v) (b := b) h r2
      have hz6 := k6.size
      refine RunT.imp ?_ (node_c hs6.mgr in5' in6 hw (by omega) (by omega) (by omega))
      rintro H7 (q : Int) ⟨F7, ts7, af7, in7, rfl⟩
      refine ⟨Same1.mk ((hs6.o1.cell rfl).trans (o1m.cell rfl).symm), Same1.mk ((o36.cell rfl).trans (o35.cell rfl).symm), ?_⟩
      have hs7 := hs6.grow af7
      have l7 := af7.len
      rw [← hfe] at in7 ⊢
      refine fin H7 F7 ts7 es6 hs7 (p5.trans (p6.trans af7.pre)) (by omega) ?_ ?_ in7
      · have kA : Keep (fun y => F y ∨ y = p.nm) H H5 := Kp.andThen k3 k5
        have kB : Keep (fun y => F y ∨ y = p.nm) H H6 := Keep.trans kA k6 fun y hy e => by
          rcases e with e | e
          · rcases fr5 y e with e | e
            · exact .inl e
            · omega
          · exact .inr e
        exact Keep.trans kB af7.keep fun y hy e => by
          rcases fr6 y e with e | e
          · rcases fr5 y e with e | e
            · exact .inl e
            · omega
          · omega
      · intro y hy
        rcases af7.fresh y hy with hy | hy
        · rcases fr6 y hy with hy | hy
          · rcases fr5 y hy with hy | hy
            · exact .inl hy
            · exact .inr (by omega)
          · exact .inr (by omega)
        · exact .inr (by omega)
    · have hweq : w = v := by omega
      have hfe : fixT v b (nd w l h) = if b then h else l := by simp only [fixT]; rw [if_neg (by omega), if_pos hweq]
      have k03 : Keep (fun y => F y ∨ y = p.nm) H H3 := k3.mono fun _ _ e => e.elim
      have hfin3 := fin H3 F ts es hs3 List.prefix_rfl (by omega) k03 (fun y h => .inl h)
      rw [hfe] at hfin3
      cases b with
      | true =>
        exact Ld.oi hs3.o5 rfl (CondB.pos rfl (FA.mk (Ld.oi o3 rfl (hfin3 hinh))))
      | false =>
        exact Ld.oi hs3.o5 rfl (CondB.neg rfl (hfin3 hinl))
end Go.Proofs.Ytanaaabejeeakaa
end
section
namespace Go.AI
open DT
def exL : List Nat → ((Nat → Bool) → Bool) → (Nat → Bool) → Bool
  | [], g => g
  | v :: vs, g => exL vs fun ρ => g (setA ρ v false) || g (setA ρ v true)
theorem setA_self (ρ : Nat → Bool) (v : Nat) : setA ρ v (ρ v) = ρ := by
  funext w
  unfold setA
  split
  · next e => rw [e]
  · rfl
theorem setA_setA (ρ : Nat → Bool) (v : Nat) (a b : Bool) : setA (setA ρ v a) v b = setA ρ v b := by
  funext w
  unfold setA
  split <;> rfl
theorem exL_iff : ∀ (vs : List Nat) (g : (Nat → Bool) → Bool) (ρ : Nat → Bool), exL vs g ρ = true ↔ ∃ ρ', (∀ w, w ∉ vs → ρ' w = ρ w) ∧ g ρ' = true
  | [], g, ρ => by
    constructor
    · exact fun h => ⟨ρ, fun _ _ => rfl, h⟩
    · rintro ⟨ρ', h1, h2⟩
      have : ρ' = ρ := funext fun w => h1 w List.not_mem_nil
      rw [← this]; exact h2
  | v :: vs, g, ρ => by
    unfold exL
    rw [exL_iff vs]
    constructor
    · rintro ⟨r, h1, h2⟩
      have : ∃ b, g (setA r v b) = true := by
        rw [Bool.or_eq_true] at h2
        exact h2.elim (fun h => ⟨false, h⟩) fun h => ⟨true, h⟩
      obtain ⟨b, hb⟩ := this
      refine ⟨setA r v b, fun w hw => ?_, hb⟩
      rw [List.mem_cons, not_or] at hw
      unfold setA
      rw [if_neg hw.1]
      exact h1 w hw.2
    · rintro ⟨r, h1, h2⟩
      have key : ∀ r' : Nat → Bool, setA r' v (r v) = r → (g (setA r' v false) || g (setA r' v true)) = true := by
        intro r' e
        rw [← e] at h2
        cases hb : r v with
        | false => rw [hb] at h2; rw [h2]; rfl
        | true => rw [hb] at h2; rw [h2, Bool.or_true]
      by_cases hm : v ∈ vs
      · refine ⟨r, fun w hw => h1 w ?_, key r (setA_self r v)⟩
        rw [List.mem_cons, not_or]
        exact ⟨fun e => hw (e ▸ hm), hw⟩
      · refine ⟨setA r v (ρ v), fun w hw => ?_, key _ (by rw [setA_setA, setA_self])⟩
        by_cases e : w = v
        · subst e; unfold setA; rw [if_pos rfl]
        · unfold setA
          rw [if_neg e]
          refine h1 w ?_
          rw [List.mem_cons, not_or]
          exact ⟨e, hw⟩
theorem exL_set {vs us : List Nat} (h : ∀ w, w ∈ vs ↔ w ∈ us) (g : (Nat → Bool) → Bool) (ρ : Nat → Bool) : exL vs g ρ = exL us g ρ := by
  have e : exL vs g ρ = true ↔ exL us g ρ = true := by
    rw [exL_iff, exL_iff]
    constructor
    · rintro ⟨r, h1, h2⟩
      exact ⟨r, fun w hw => h1 w fun hm => hw ((h w).1 hm), h2⟩
    · rintro ⟨r, h1, h2⟩
      exact ⟨r, fun w hw => h1 w fun hm => hw ((h w).2 hm), h2⟩
  cases h1 : exL vs g ρ with
  | true => exact (e.1 h1).symm
  | false =>
    cases h2 : exL us g ρ with
    | true => rw [e.2 h2] at h1; cases h1
    | false => rfl
theorem exL_snoc : ∀ (vs : List Nat) (v : Nat) (g : (Nat → Bool) → Bool) (ρ : Nat → Bool), exL (vs ++ [v]) g ρ = (exL vs g (setA ρ v false) || exL vs g (setA ρ v true))
  | [], v, g, ρ => rfl
  | u :: vs, v, g, ρ => by
    show exL (vs ++ [v]) _ ρ = _
    rw [exL_snoc vs v]
    rfl
end Go.AI
end
section
namespace Go.Proofs.Ytanaaabejeeakaa
open Go.AI Go.AI.DT
theorem fixed_c {m : AC} {F : Nat → Prop} {ts : List DT} {x : DT} {v : Nat} {b : Bool} {H : AHeap} (hm : Mgr H m F ts) (hx : In ts x) (hv : v < 16) (hsz : ts.length + 65536 ≤ 4294967296) :
    Fn.Z30 m (ref ts x) (v : Int) (if b then 1 else 0) H fun H' q => ∃ F' ts', After H m F ts 65535 H' F' ts' ∧ In ts' (fixT v b x) ∧ q = ref ts' (fixT v b x) := by
  refine Z30.run ?_
  unfold Z30.W
  refine New.own fun mb H1 hmb hs1 o1 k1 => New.own fun vb H2 hvb hs2 o2 k2 => New.own fun bb H3 hbb hs3 o3 k3 => NewM.i none fun nm H4 hnm hs4 mp k4 => New.own fun nb H5 hnb hs5 o5 k5 => ?_
  refine Sto.own o5 (Nat.le_refl 1) fun H6 o6 k6 hs6 => New.own fun sb H7 hsb hs7 o7 k7 => Fnc.mk rfl rfl ?_
  refine Sto.own o7 (Nat.le_refl 1) fun H8 o8 k8 hs8 => ?_
  have k35 := (k1.trans k2).trans k3
  have hlt := hm.lt
  have kA : Kp H H5 := (k35.trans k4).trans k5
  have kB : Kp H H6 := kA.fresh k6 fun y e => by have e' : y = nb := e; omega
  have kC : Kp H H8 := (kB.trans k7).fresh k8 fun y e => by have e' : y = sb := e; omega
  have q6 : ∀ {c : Nat}, c ≠ nb → ¬ (fun y => y = nb) c := fun h e => h e
  have q8 : ∀ {c : Nat}, c ≠ sb → ¬ (fun y => y = sb) c := fun h e => h e
  have hs : XS H8 m F ts ⟨mb, vb, nb, sb, bb, nm⟩ v b [] := by
    refine ⟨hm.kp kC, ?_, ?_, ?_, o8, ?_, ?_, fun k n h => (by cases h), ?_, ?_⟩
    · exact ((((((o1.kp k2).kp k3).kp k4).kp k5).keep k6 (q6 (by omega))).kp k7).keep k8 (q8 (by omega))
    · exact (((((o2.kp k3).kp k4).kp k5).keep k6 (q6 (by omega))).kp k7).keep k8 (q8 (by omega))
    · exact (o6.kp k7).keep k8 (q8 (by omega))
    · exact ((((o3.kp k4).kp k5).keep k6 (q6 (by omega))).kp k7).keep k8 (q8 (by omega))
    · exact (((mp.kp k5).keep k6 (q6 (by omega))).kp k7).keep k8 (q8 (by omega))
    · intro y hy hl
      have := hlt y hy
      rcases hl with e | e | e | e | e | e <;> simp only at e <;> omega
    · refine ⟨?_, ?_, ?_, ?_, ?_⟩ <;> simp only <;> omega
  have hp : 2 ^ (16 - x.top) ≤ 65536 := pow2_lt (by omega)
  refine Ld.oc o8 rfl (CVT.imp ?_ (CVT.mk lt89 (fixed_m hv x hx hs (by omega))))
  rintro H9 (q : Int) ⟨F', ts', es', hs', p, l, k9, fr, hin, rfl⟩
  have hz := kC.size
  refine ⟨F', ts', ⟨hs'.mgr, p, by omega, ?_, fun y hy => ?_⟩, hin, rfl⟩
  · exact Keep.trans (kC.mono fun _ _ e => e.elim : Keep F H H8) k9 fun y hy e => by
      rcases e with e | e
      · exact e
      · simp only at e; omega
  · rcases fr y hy with h | h
    · exact .inl h
    · exact .inr (by omega)
theorem isVar_c {v : Int} {H : AHeap} : Fn.Z23 v H fun H' q => H' = H ∧ q = (decide (0 ≤ v) && decide (v < 16)) := by
  refine Z23.run ?_
  unfold Z23.W
  refine CondB.dec (fun h => ⟨rfl, ?_⟩) fun h => ⟨rfl, ?_⟩
  · rw [decide_eq_true (show 0 ≤ v from h), Bool.true_and]
  · rw [decide_eq_false (show ¬ 0 ≤ v by omega), Bool.false_and]
open Classical in
noncomputable def rFault (l : List NRow) (r v bit : Int) : Int := if dFault l r ≠ 0 then dFault l r else if v < 0 ∨ 16 ≤ v ∨ (bit ≠ 0 ∧ bit ≠ 1) then 1 else 0
theorem Restrict_c {ra v bit : Int} {sa : AC} {la : List NRow} {H : AHeap} (ha : SlR H sa 3 (nodeRows la)) :
    Fn.Z21 sa ra v bit H fun H' ns root err => ERes H H' (rFault la ra v bit) (fun ρ => dVal la ra (setA ρ v.toNat (bit == 1))) ns root err ∧ Kp H H' := by
  refine Z21.run ?_
  unfold Z21.W
  refine New.own fun b1 H1 hb1 hs1 o1 k1 => New.own fun b3 H3 hb3 hs3 o3 k3 => Ld.o2 (o1.kp k3) sa ra rfl ?_
  have kk := k1.trans k3
  refine RunT.imp ?_ (CheckDiagram_c (ha.kp kk))
  rintro H4 (q : Int) ⟨rfl, k4⟩
  have kk4 := kk.trans k4
  have hz4 := kk4.size
  have hb14 := ((o1.kp k3).kp k4).lt
  have hb34 := (o3.kp k4).lt
  refine CondB.ne (fun hne => ?_) fun he => ?_
  · refine Sto.own (o3.kp k4) (Nat.le_refl 2) fun H5 o5 k5 hs5 => ?_
    exact Ld.o2 o5 (.sl none 0 0 (some 0)) (0 : Int) rfl ⟨.inl ⟨by unfold rFault; rw [if_pos hne]; exact hne, by unfold rFault; rw [if_pos hne], rfl, SlR.nil _ _⟩, kk4.fresh k5 fun y e => by have e' : y = b3 := e; omega⟩
  have hrf : rFault la ra v bit = if v < 0 ∨ 16 ≤ v ∨ (bit ≠ 0 ∧ bit ≠ 1) then 1 else 0 := by unfold rFault; rw [if_neg (by omega)]
  have bad : (v < 0 ∨ 16 ≤ v ∨ (bit ≠ 0 ∧ bit ≠ 1)) → Z21.p15 (fun H' ns root err => ERes H H' (rFault la ra v bit) (fun ρ => dVal la ra (setA ρ v.toNat (bit == 1))) ns root err ∧ Kp H H') v bit (.ptr (some (b1, 0))) (.ptr (some (b3, 0))) true H4 := by
    intro hbad
    rw [if_pos hbad] at hrf
    unfold Z21.p15
    refine CondB.pos rfl (Sto.own (o3.kp k4) (Nat.le_refl 2) fun H5 o5 k5 hs5 => ?_)
    exact Ld.o2 o5 (.sl none 0 0 (some 0)) (0 : Int) rfl ⟨.inl ⟨by omega, hrf.symm, rfl, SlR.nil _ _⟩, kk4.fresh k5 fun y e => by have e' : y = b3 := e; omega⟩
  have good : ¬ (v < 0 ∨ 16 ≤ v ∨ (bit ≠ 0 ∧ bit ≠ 1)) → Z21.p15 (fun H' ns root err => ERes H H' (rFault la ra v bit) (fun ρ => dVal la ra (setA ρ v.toNat (bit == 1))) ns root err ∧ Kp H H') v bit (.ptr (some (b1, 0))) (.ptr (some (b3, 0))) false H4 := by
    intro hgood
    rw [if_neg hgood] at hrf
    unfold Z21.p15
    refine CondB.neg rfl ?_
    obtain ⟨l1, c1⟩ := dFault_len he
    refine RunT.imp ?_ newManager_c
    rintro H6 m ⟨⟨F, hm, hF⟩, k6⟩
    refine Ld.o2 (((o1.kp k3).kp k4).kp k6) sa ra rfl (RunT.imp ?_ (add_c ha (Kp.old (kk4.trans k6)) hm (fun x h => by have := hF x h; omega) c1.of.1 c1.of.2.1 c1.of.2.2.1 l1 (by simp)))
    rintro H7 qa ⟨F7, ts7, af7, in7, rfl⟩
    have k47 : Kp H4 H7 := k6.fresh af7.keep fun x h => hF x h
    have hl7 := af7.len
    have hF7 : ∀ x, F7 x → H4.size ≤ x := fun x h => (af7.fresh x h).elim (hF x) fun h => by have := k6.size; omega
    simp only [List.length_nil, Nat.zero_add] at hl7
    obtain ⟨w, rfl⟩ : ∃ w : Nat, v = w := ⟨v.toNat, by omega⟩
    obtain ⟨b, rfl⟩ : ∃ b : Bool, bit = if b then 1 else 0 := by
      by_cases hb : bit = 1
      · exact ⟨true, hb⟩
      · exact ⟨false, by simp only [Bool.false_eq_true, if_false]; omega⟩
    refine RunT.imp ?_ (fixed_c (v := w) (b := b) af7.mgr in7 (by omega) (by omega))
    rintro H9 q ⟨F9, ts9, af9, in9, rfl⟩
    have hl9 := af9.len
    have k49 : Kp H4 H9 := k47.fresh af9.keep fun x h => hF7 x h
    refine RunT.imp ?_ (result_c af9.mgr in9 (by omega))
    rintro H10 (ns : AC) (root : Int) (err : Int) ⟨hres, k10⟩
    have hz9 := k49.size
    have kk10 := (kk4.trans k49).trans k10
    have hev : ∀ ρ, (fixT w b (atR (bld la) ra)).eval ρ = dVal la ra (setA ρ (w : Int).toNat ((if b then (1 : Int) else 0) == 1)) := by
      intro ρ
      have e1 : ((if b then (1 : Int) else 0) == 1) = b := by cases b <;> rfl
      rw [e1, Int.toNat_natCast]
      exact (fixT_spec (v := w) (b := b) _ (af7.mgr.fin.ro in7)).2.2 ρ
    refine Sto.own (((o3.kp k4).kp k49).kp k10) (Nat.le_refl 2) fun H11 o11 k11 hs11 => Ld.o2 o11 ns root rfl ⟨.inr ⟨hrf, _, af9.mgr.fin.ro in9, hev, ?_⟩, kk10.fresh k11 fun y e => by have e' : y = b3 := e; omega⟩
    exact (hres.keep k11 fun y e => by have e' : y = b3 := e; omega).from (by omega)
  refine RunT.imp ?_ isVar_c
  rintro H5 (q : Bool) ⟨eH, rfl⟩
  obtain rfl : H4 = H5 := eH.symm
  by_cases hv : 0 ≤ v ∧ v < 16
  · rw [decide_eq_true hv.1, decide_eq_true hv.2]
    refine CondB.neg rfl (CondB.ne (fun h0 => ?_) fun h0 => good (by omega))
    by_cases h1 : bit = 1
    · rw [show (bit != 1) = false from by rw [h1]; rfl]
      exact good (by omega)
    · rw [show (bit != 1) = true from by simpa using h1]
      exact bad (by omega)
  · have e : (decide (0 ≤ v) && decide (v < 16)) = false := by
      rw [Bool.and_eq_false_iff, decide_eq_false_iff_not, decide_eq_false_iff_not]
      omega
    rw [e]
    exact CondB.pos rfl (bad (by omega))
end Go.Proofs.Ytanaaabejeeakaa
end
section
namespace Go.Proofs.Ytanaaabejeeakaa
open Go.AI Go.AI.DT Go.Lib
theorem lt68 : 68 < Try.prog.funcs.size := (Array.getElem?_eq_some_iff.1 Try.func68).1
theorem iRow_at {l : List Int} {i : Nat} {p : Int} (h : l[i]? = some p) : (iRows l)[i]? = some [AC.int .i64 p] := by unfold iRows; rw [List.getElem?_map, h]; rfl
theorem IndexFuncI_c {s fn : AC} {l : List Int} {H : AHeap} {f : Int → Bool} (hs : SlR H s 1 (iRows l)) (hlen : l.length < 4611686018427387904)
    (hf : ∀ (p : Int) (H2 : AHeap), Kp H H2 → CVT Try.prog [(false, [.bool])] fn [(.one (.int .i64 p))] H2 fun H3 b => Kp H2 H3 ∧ b = f p) :
    Fn.Z8 s fn H fun H' q => Kp H H' ∧ (0 ≤ q ↔ ∃ p ∈ l, f p = true) := by
  refine Z8.run ?_
  unfold Z8.W Z8.l6
  refine LenS.of hs ?_
  rw [iRows_len]
  refine LoopT.rule (fun m s0 H3 => ∃ i : Nat, i ≤ l.length ∧ m = l.length - i ∧ s0 = (s, fn, (l.length : Int), (i : Int), ()) ∧ Kp H H3 ∧ ∀ j p, j < i → l[j]? = some p → f p = false) l.length ⟨0, by omega, by omega, rfl, Kp.refl _, fun j p h => by omega⟩ ?_
  rintro m s0 H3 back ⟨i, hi, rfl, rfl, k3, hall⟩ hback
  simp only [Z8.b6]
  refine CondB.dec (fun hlt => ?_) fun hge => ?_
  · have hi' : i < l.length := by omega
    obtain ⟨p, hp⟩ : ∃ b, l[i]? = some b := ⟨_, List.getElem?_eq_getElem hi'⟩
    refine IA.of (hs.kp k3) (by omega) (by rw [Int.toNat_natCast]; exact iRow_at hp) fun b1 o1 hld => Ld.all hld ((p : Int), ()) rfl rfl ?_
    refine CVT.imp ?_ (hf p H3 k3)
    rintro H4 b ⟨k4, rfl⟩
    refine CondB.mk (fun hc => ⟨k3.trans k4, ?_⟩) fun hc => ?_
    · exact ⟨fun _ => ⟨p, List.mem_of_getElem? hp, hc⟩, fun _ => by show (0 : Int) ≤ (i : Int); omega⟩
    · refine hback (l.length - (i + 1)) _ _ (by omega) ⟨i + 1, by omega, rfl, ?_, k3.trans k4, fun j q hj hq => ?_⟩
      · exact tc rfl (tc rfl (tc rfl (tc ((wrap64 (by omega) (by omega)).trans (by omega)) rfl)))
      · by_cases hji : j = i
        · subst hji
          rw [hp] at hq
          cases hq
          exact hc
        · exact hall j q (by omega) hq
  · refine ⟨k3, fun h => by exfalso; have h' : (0 : Int) ≤ -1 := h; omega, fun ⟨p, hp, he⟩ => ?_⟩
    obtain ⟨j, hj, e⟩ := List.getElem_of_mem hp
    have := hall j p (by omega) (by rw [List.getElem?_eq_getElem hj, e])
    rw [this] at he; cases he
theorem noVar_c {s : AC} {l : List Int} {H : AHeap} (hs : SlR H s 1 (iRows l)) (hlen : l.length < 4611686018427387904) :
    Fn.Z5 s (.fn 68 [] []) H fun H' q => Kp H H' ∧ (q = true ↔ ∃ p ∈ l, p < 0 ∨ 16 ≤ p) := by
  refine Z5.run ?_
  unfold Z5.W
  refine RunT.imp ?_ (IndexFuncI_c (f := fun p => !(decide (0 ≤ p) && decide (p < 16))) hs hlen fun p H2 k2 => CVT.mk lt68 ?_)
  · rintro H5 (q : Int) ⟨k5, hq⟩
    refine ⟨k5, ?_⟩
    rw [decide_eq_true_iff, ge_iff_le, hq]
    refine exists_congr fun p => and_congr_right fun _ => ?_
    rw [Bool.not_eq_true', Bool.and_eq_false_iff, decide_eq_false_iff_not, decide_eq_false_iff_not]
    omega
  · refine Z19.run ?_
    unfold Z19.W
    refine RunT.imp ?_ isVar_c
    rintro H3 (q : Bool) ⟨eH, rfl⟩
    obtain rfl : H2 = H3 := eH.symm
    exact ⟨Kp.refl _, rfl⟩
theorem asc_len : ∀ (l : List Int) (a : Int), l.Pairwise (· < ·) → (∀ x ∈ l, a ≤ x ∧ x < 16) → a ≤ 16 → (l.length : Int) ≤ 16 - a
  | [], a, _, _, ha => by simp; omega
  | x :: l, a, hl, h, ha => by
    have hl' := List.pairwise_cons.1 hl
    have hx := h x (List.mem_cons_self ..)
    have := asc_len l (x + 1) hl'.2 (fun y hy => ⟨hl'.1 y hy, (h y (List.mem_cons_of_mem _ hy)).2⟩) (by omega)
    rw [List.length_cons]
    omega
def natsOf (l : List Int) : List Nat := l.map Int.toNat
theorem natsOf_mem {l us : List Int} (h : ∀ x, x ∈ l ↔ x ∈ us) (w : Nat) : w ∈ natsOf l ↔ w ∈ natsOf us := by
  unfold natsOf
  rw [List.mem_map, List.mem_map]
  exact exists_congr fun x => and_congr_left fun _ => h x
open Classical in
noncomputable def eFault (l : List NRow) (r : Int) (vs : List Int) : Int := if dFault l r ≠ 0 then dFault l r else if ∃ p ∈ vs, p < 0 ∨ 16 ≤ p then 1 else 0
theorem Exists_c {ra : Int} {sa sv : AC} {la : List NRow} {vs : List Int} {H : AHeap} (ha : SlR H sa 3 (nodeRows la)) (hv : SlR H sv 1 (iRows vs)) (hw : GW H) (hl : vs.length < 4611686018427387904) (hl2 : vs.length * 8 + 8 ≤ 140737488355328) :
    Fn.Z18 sa ra sv H fun H' ns root err => ERes H H' (eFault la ra vs) (exL (natsOf vs) (dVal la ra)) ns root err ∧ Kp H H' := by
  refine Z18.run ?_
  unfold Z18.W
  refine New.own fun b1 H1 hb1 hs1 o1 k1 => New.own fun b3 H3 hb3 hs3 o3 k3 => Ld.o2 (o1.kp k3) sa ra rfl ?_
  have kk := k1.trans k3
  refine RunT.imp ?_ (CheckDiagram_c (ha.kp kk))
  rintro H4 (q : Int) ⟨rfl, k4⟩
  have kk4 := kk.trans k4
  have hz4 := kk4.size
  have hb34 := (o3.kp k4).lt
  refine CondB.ne (fun hne => ?_) fun he => ?_
  · refine Sto.own (o3.kp k4) (Nat.le_refl 2) fun H5 o5 k5 hs5 => ?_
    exact Ld.o2 o5 (.sl none 0 0 (some 0)) (0 : Int) rfl ⟨.inl ⟨by unfold eFault; rw [if_pos hne]; exact hne, by unfold eFault; rw [if_pos hne], rfl, SlR.nil _ _⟩, kk4.fresh k5 fun y e => by have e' : y = b3 := e; omega⟩
  have hrf : eFault la ra vs = if ∃ p ∈ vs, p < 0 ∨ 16 ≤ p then 1 else 0 := by unfold eFault; rw [if_neg (by omega)]
  refine RunT.imp ?_ (noVar_c (hv.kp kk4) hl)
  rintro H5 (q : Bool) ⟨k5, hq⟩
  have kk5 := kk4.trans k5
  refine CondB.mk (fun hc => ?_) fun hc => ?_
  · rw [if_pos (hq.1 hc)] at hrf
    refine Sto.own ((o3.kp k4).kp k5) (Nat.le_refl 2) fun H6 o6 k6 hs6 => ?_
    exact Ld.o2 o6 (.sl none 0 0 (some 0)) (0 : Int) rfl ⟨.inl ⟨by omega, hrf.symm, rfl, SlR.nil _ _⟩, kk5.fresh k6 fun y e => by have e' : y = b3 := e; omega⟩
  have hno : ¬ ∃ p ∈ vs, p < 0 ∨ 16 ≤ p := fun h => by rw [hq.2 h] at hc; cases hc
  rw [if_neg hno] at hrf
  obtain ⟨l1, c1⟩ := dFault_len he
  have o15 := ((o1.kp k3).kp k4).kp k5
  have o35 := (o3.kp k4).kp k5
  have hb35 := o35.lt
  have hz5 := kk5.size
  refine RunT.imp ?_ newManager_c
  rintro H6 m ⟨⟨F, hm, hF⟩, k6⟩
  refine Ld.o2 (o15.kp k6) sa ra rfl (RunT.imp ?_ (add_c ha (Kp.old (kk5.trans k6)) hm (fun x h => by have := hF x h; omega) c1.of.1 c1.of.2.1 c1.of.2.2.1 l1 (by simp)))
  rintro H7 qa ⟨F7, ts7, af7, in7, rfl⟩
  have k57 : Kp H5 H7 := k6.fresh af7.keep fun x h => hF x h
  have hl7 := af7.len
  have hF7 : ∀ x, F7 x → H5.size ≤ x := fun x h => (af7.fresh x h).elim (hF x) fun h => by have := k6.size; omega
  have hF7l := af7.mgr.lt
  have hm7 := af7.mgr
  simp only [List.length_nil, Nat.zero_add] at hl7
  refine RunT.imp ?_ (Z10.run (Q := fun H' q => ∃ bx, q = .fn 93 [] [(bx, 0)] ∧ Own H' bx [sv] ∧ Kp H7 H') ?_)
  rotate_left
  · unfold Z10.W
    exact New.own fun bx H8 hbx hs8 o8 k8 => Fnc.mk rfl rfl ⟨bx, rfl, o8, k8⟩
  rintro H8 (q : AC) ⟨bx, rfl, o8, k8⟩
  have kk8 := (kk5.trans k57).trans k8
  have hw8 := kk8.gw.1 hw
  refine RunT.imp ?_ (Sorted_c o8 (hv.kp kk8) hw8 hl hl2)
  rintro H9 (q : AC) ⟨⟨Fs, ho9, hFs⟩, k9⟩
  refine RunT.imp ?_ (Compact_o ho9 (k9.gw.1 hw8) (by unfold sortI; rw [List.length_mergeSort]; exact hl))
  rintro H10 (q : AC) ⟨hq10, hqF, k10⟩
  have k710 : Kp H7 H10 := (k8.trans k9).fresh k10 fun y h => by have := hFs y h; have := k8.size; omega
  obtain ⟨us, hus⟩ : ∃ us, us = compact (sortI vs) := ⟨_, rfl⟩
  obtain ⟨ua, um⟩ := compact_sort vs
  change (compact (sortI vs)).Pairwise (· < ·) at ua
  change ∀ x, x ∈ compact (sortI vs) ↔ x ∈ vs at um
  rw [← hus] at ua um hq10
  have hur : ∀ x ∈ us, 0 ≤ x ∧ x < 16 := fun x hx => by
    have := (um x).1 hx
    by_cases h : 0 ≤ x ∧ x < 16
    · exact h
    · exact absurd ⟨x, this, by omega⟩ hno
  have hul := asc_len us 0 ua hur (by omega)
  have hval : exL (natsOf vs) (dVal la ra) = exL (natsOf us) (dVal la ra) := funext fun ρ => exL_set (fun w => natsOf_mem (fun x => (um x).symm) w) _ ρ
  rw [hval, hrf]
  have k510 := k57.trans k710
  have h1 := k710.size
  refine LenS.of hq10 ?_
  rw [iRows_len]
  unfold Z18.l28
  refine LoopT.rule (fun mm s0 H11 => ∃ (i : Nat) (Fi : Nat → Prop) (ts : List DT) (x : DT), i ≤ us.length ∧ mm = us.length - i ∧ s0 = (.ptr (some (b3, 0)), m, ref ts x, q, (us.length : Int), (i : Int), ()) ∧
    Mgr H11 m Fi ts ∧ In ts x ∧ ts.length ≤ 2000 + i * 196605 ∧ (∀ ρ, x.eval ρ = exL (natsOf (us.take i)) (dVal la ra) ρ) ∧ Keep F7 H10 H11 ∧ (∀ y, Fi y → F7 y ∨ H10.size ≤ y)) us.length
    ⟨0, F7, ts7, atR (bld la) ra, by omega, by omega, rfl, hm7.kp k710, in7, by omega, fun ρ => rfl, Keep.refl _ _, fun y h => .inl h⟩ ?_
  rintro mm s0 H11 back ⟨i, Fi, ts, x, hi, rfl, rfl, hm11, hx, hlt, hev, k11, hFi⟩ hback
  simp only [Z18.b28]
  have hF7' : ∀ b o n cap z, q = .sl (some (b, o)) z n cap → ¬ F7 b := fun b o n cap z e hF => by
    have := hFs b (hqF b o z n cap e)
    have := hF7l b hF
    have := k8.size
    omega
  have k511 : Kp H5 H11 := k510.fresh k11 hF7
  refine CondB.dec (fun hlt2 => ?_) fun hge => ?_
  · have hi' : i < us.length := by omega
    obtain ⟨p, hp⟩ : ∃ b, us[i]? = some b := ⟨_, List.getElem?_eq_getElem hi'⟩
    have hpr := hur p (List.mem_of_getElem? hp)
    obtain ⟨w, rfl⟩ : ∃ w : Nat, p = w := ⟨p.toNat, by omega⟩
    refine IA.of (hq10.keep k11 hF7') (by omega) (by rw [Int.toNat_natCast]; exact iRow_at hp) fun b1 o1 hld => Ld.all hld ((w : Int), ()) rfl rfl ?_
    refine RunT.imp ?_ (fixed_c (v := w) (b := false) hm11 hx (by omega) (by omega))
    rintro H12 (q2 : Int) ⟨F12, ts12, af12, in12, rfl⟩
    have l12 := af12.len
    rw [← ref_mono hx af12.pre]
    refine RunT.imp ?_ (fixed_c (v := w) (b := true) af12.mgr (hx.mono af12.pre) (by omega) (by omega))
    rintro H13 (q2 : Int) ⟨F13, ts13, af13, in13, rfl⟩
    have l13 := af13.len
    rw [← ref_mono in12 af13.pre]
    refine RunT.imp ?_ (or_c af13.mgr (in12.mono af13.pre) in13 (by omega))
    rintro H14 (q2 : Int) ⟨F14, ts14, r, af14, in14, rfl, hev14⟩
    have af := (af12.trans af13).trans af14
    have laf := af.len
    refine hback (us.length - (i + 1)) _ _ (by omega) ⟨i + 1, F14, ts14, r, by omega, rfl, ?_, af.mgr, in14, by omega, fun ρ => ?_, Keep.trans k11 af.keep fun y hy h => ?_, fun y hy => ?_⟩
    · exact tc rfl (tc rfl (tc rfl (tc rfl (tc rfl (tc ((wrap64 (by omega) (by omega)).trans (by omega)) rfl)))))
    · have hro := hm11.fin.ro hx
      rw [hev14 ρ]
      show ((fixT w false x).eval ρ || (fixT w true x).eval ρ) = _
      rw [(fixT_spec (v := w) (b := false) x hro).2.2 ρ, (fixT_spec (v := w) (b := true) x hro).2.2 ρ, hev, hev]
      have e : natsOf (us.take (i + 1)) = natsOf (us.take i) ++ [w] := by
        unfold natsOf
        rw [List.take_add_one, List.map_append, hp]
        rfl
      rw [e, exL_snoc]
    · rcases hFi y h with h | h
      · exact h
      · omega
    · rcases af.fresh y hy with h | h
      · exact hFi y h
      · exact .inr (by have := k11.size; omega)
  · have hil : i = us.length := by omega
    subst hil
    rw [List.take_length] at hev
    refine RunT.imp ?_ (result_c hm11 hx (by omega))
    rintro H12 (ns : AC) (root : Int) (err : Int) ⟨hres, k12⟩
    have hz11 := k511.size
    have kk12 := (kk5.trans k511).trans k12
    refine Sto.own ((o35.kp k511).kp k12) (Nat.le_refl 2) fun H13 o13 k13 hs13 => Ld.o2 o13 ns root rfl ⟨.inr ⟨rfl, x, hm11.fin.ro hx, hev, ?_⟩, kk12.fresh k13 fun y e => by have e' : y = b3 := e; omega⟩
    exact (hres.keep k13 fun y e => by have e' : y = b3 := e; omega).from (by omega)
end Go.Proofs.Ytanaaabejeeakaa
end
section
namespace Go.Proofs.Ytanaaabejeeakaa
open Go.AI Go.AI.DT
end Go.Proofs.Ytanaaabejeeakaa
end
section
namespace Go.Proofs.Ytanaaabejeeakaa
open Go.AI Go.AI.DT
end Go.Proofs.Ytanaaabejeeakaa
end
section
namespace Go.AI
end Go.AI
end
section
namespace Go.Proofs.Ytanaaabejeeakaa
open Go.AI Go.AI.DT
end Go.Proofs.Ytanaaabejeeakaa
end
section
namespace Go.Proofs.Ytanaaabejeeakaa
open Go.AI Go.AI.DT
theorem ERes.of0 {H0 H : AHeap} {g : (Nat → Bool) → Bool} {ns : AC} {root err : Int} (h : ERes H0 H 0 g ns root err) : ∃ x : DT, x.RO ∧ (∀ ρ, x.eval ρ = g ρ) ∧ DRes H x ns root err := by
  rcases h with ⟨a, _⟩ | ⟨_, x, b, c, d⟩
  · exact absurd rfl a
  · exact ⟨x, b, c, d.res⟩
theorem ERes.few {H0 H : AHeap} {g : (Nat → Bool) → Bool} {ns : AC} {root err : Int} {y : DT} (h : ERes H0 H 0 g ns root err) (hy : y.RO) (hl : (ser y []).length ≤ 2000) (he : ∀ ρ, y.eval ρ = g ρ) : err = 0 ∧ root = ref (ser y []) y ∧ SlR H ns 3 (nodeRows (rowsOf y)) := by
  obtain ⟨x, b, c, d⟩ := h.of0
  have : x = y := canon' b hy fun ρ => (c ρ).trans (he ρ).symm
  subst this
  rcases d with ⟨d1, _⟩ | ⟨_, d2, d3, d4⟩
  · omega
  · exact ⟨d2, d3, d4⟩
theorem ERes.or3 {H0 H : AHeap} {g : (Nat → Bool) → Bool} {ns : AC} {root err : Int} (h : ERes H0 H 0 g ns root err) : err = 0 ∨ err = 3 := by
  obtain ⟨x, b, c, d⟩ := h.of0
  rcases d with ⟨_, d2, _⟩ | ⟨_, d2, _⟩
  · exact .inr d2
  · exact .inl d2
theorem law8_c {ra v : Int} {sa : AC} {la : List NRow} {H : AHeap} (ha : SlR H sa 3 (nodeRows la)) (hw : GW H) :
    Fn.Z0 sa ra v H fun H' q => q = true ∧ Kp H H' := by
  refine Z0.run ?_
  unfold Z0.W
  refine New.own fun b1 H1 hb1 hs1 o1 k1 => Ld.o2 o1 sa ra rfl (RunT.imp ?_ (Restrict_c (ha.kp k1)))
  rintro H3 (n1 : AC) (r1 : Int) (e1 : Int) ⟨res1, k3⟩
  refine NewSto.own rfl fun c1 H4 hc1 hs4 w1 k4 => ?_
  have k14 := k3.trans k4
  have kk4 := k1.trans k14
  refine Ld.o2 (o1.kp k14) sa ra rfl (RunT.imp ?_ (Restrict_c (ha.kp kk4)))
  rintro H5 (n2 : AC) (r2 : Int) (e2 : Int) ⟨res2, k5⟩
  refine NewSto.own rfl fun c2 H6 hc2 hs6 w2 k6 => ?_
  have k46 := k5.trans k6
  have k16 := k14.trans k46
  have kk6 := k1.trans k16
  refine RunT.imp ?_ (Build_e (f := .mk 1 v []) (by simp [Fm.size, Fm.sizes]) (.mk [] rfl (SlR.nil _ _) (fun b o z m cap e => by cases e) fun i r k h => by simp at h))
  rintro H7 (n3 : AC) (r3 : Int) (e3 : Int) ⟨res3, k7⟩
  refine NewSto.own rfl fun c3 H8 hc3 hs8 w3 k8 => ?_
  have k68 := k7.trans k8
  have k18 := k16.trans k68
  have kk8 := k1.trans k18
  have k48 := k46.trans k68
  have done : Z0.p11 (fun H' q => q = true ∧ Kp H H') v (.ptr (some (b1, 0))) (.ptr (some (c1, 0))) (.ptr (some (c2, 0))) (.ptr (some (c3, 0))) true H8 := by
    unfold Z0.p11
    refine CondB.pos rfl (RunT.imp ?_ built_c)
    rintro H9 q ⟨rfl, k9⟩
    exact ⟨rfl, kk8.trans k9⟩
  refine CondB.ne (fun _ => done) fun h1 => CondB.ne (fun _ => done) fun h2 => ?_
  by_cases h3 : e3 = 0
  rotate_left
  · rw [show (e3 != 0) = true from by simpa using h3]
    exact done
  rw [show (e3 != 0) = false from by rw [h3]; rfl]
  obtain ⟨hb1, lL, sL, dL, lLl, vL⟩ := res1.diag h1
  obtain ⟨hb2, lR, sR, dR, lRl, vR⟩ := res2.diag h2
  obtain ⟨hb3, lX, sX, dX, lXl, vX⟩ := res3.diag h3
  have hA : dFault la ra = 0 ∧ 0 ≤ v ∧ v < 16 := by
    unfold rFault at hb1
    split at hb1
    · next h => exact absurd hb1 h
    · next h =>
      split at hb1
      · cases hb1
      · next h' => omega
  obtain ⟨hA0, hv0, hv16⟩ := hA
  obtain ⟨w, rfl⟩ : ∃ w : Nat, v = w := ⟨v.toNat, by omega⟩
  have hxv : ∀ ρ, dVal lX r3 ρ = ρ w := fun ρ => by
    rw [vX ρ]
    simp [Fm.val]
  have hlv : ∀ ρ, dVal lL r1 ρ = dVal la ra (setA ρ w false) := vL
  have hrv : ∀ ρ, dVal lR r2 ρ = dVal la ra (setA ρ w true) := vR
  unfold Z0.p11
  have sX8 := sX.kp k8
  have sL8 := (sL.kp k4).kp k48
  have sR8 := (sR.kp k6).kp k68
  refine CondB.neg rfl (Ld.o2 w3 n3 r3 rfl (RunT.imp ?_ (Not_c sX8)))
  rintro H9 (n4 : AC) (r4 : Int) (e4 : Int) ⟨res4, k9⟩
  refine NewSto.own rfl fun c4 H10 hc4 hs10 w4 k10 => ?_
  have k810 := k9.trans k10
  rw [dX] at res4
  -- the negation of a variable is small
  have h4 : e4 = 0 := by
    refine (res4.few (y := nd w (leaf true) (leaf false)) ⟨by omega, by simp, by simp only [top]; omega, by simp only [top]; omega, trivial, trivial⟩ ?_ fun ρ => ?_).1
    · simp [ser]
    · show (if ρ w then false else true) = _
      rw [hxv]
      cases ρ w <;> rfl
  obtain ⟨_, lN, sN, dN, lNl, vN⟩ := res4.diag h4
  refine Ld.o2 w4 n4 r4 rfl (Ld.o2 ((w1.kp k48).kp k810) n1 r1 rfl (RunT.imp ?_ (Apply_c (sN.kp k10) (sL8.kp k810))))
  rintro H11 (n5 : AC) (r5 : Int) (e5 : Int) ⟨res5, k11⟩
  refine NewSto.own rfl fun c5 H12 hc5 hs12 w5 k12 => ?_
  have k1012 := k11.trans k12
  have k812 := k810.trans k1012
  refine Ld.o2 (w3.kp k812) n3 r3 rfl (Ld.o2 ((w2.kp k68).kp k812) n2 r2 rfl (RunT.imp ?_ (Apply_c (sX8.kp k812) (sR8.kp k812))))
  rintro H13 (n6 : AC) (r6 : Int) (e6 : Int) ⟨res6, k13⟩
  refine NewSto.own rfl fun c6 H14 hc6 hs14 w6 k14' => ?_
  have k1214 := k13.trans k14'
  have k814 := k812.trans k1214
  have kk14 := kk8.trans k814
  have af : ∀ {op ra rb : Int} {la lb : List NRow}, (op = 4 ∨ op = 5) → dFault la ra = 0 → dFault lb rb = 0 → applyFault op la ra lb rb = 0 := fun hop h1 h2 => by
    unfold applyFault
    rw [if_neg (by omega), if_neg (by omega), h2]
  rw [af (.inl rfl) dN dL] at res5
  rw [af (.inl rfl) dX dR] at res6
  subst h4
  refine CondB.neg rfl ?_
  have done2 : Z0.p25 (fun H' q => q = true ∧ Kp H H') (w : Int) (.ptr (some (b1, 0))) (.ptr (some (c1, 0))) 0 (.ptr (some (c2, 0))) e5 e6 (.ptr (some (c5, 0))) (.ptr (some (c6, 0))) true H14 := by
    unfold Z0.p25
    refine CondB.pos rfl (CondB.pos rfl (RunT.imp ?_ built_c))
    rintro H15 q ⟨rfl, k15⟩
    exact ⟨rfl, kk14.trans k15⟩
  refine CondB.eq (fun _ => done2) fun h5n => ?_
  by_cases h6n : e6 = 3
  · rw [show (e6 == 3) = true from by simpa using h6n]
    exact done2
  rw [show (e6 == 3) = false from by simpa using h6n]
  have h5 : e5 = 0 := by rcases res5.or3 with h | h <;> omega
  have h6 : e6 = 0 := by rcases res6.or3 with h | h <;> omega
  obtain ⟨_, l5, s5, d5, l5l, v5⟩ := res5.diag h5
  obtain ⟨_, l6, s6, d6, l6l, v6⟩ := res6.diag h6
  unfold Z0.p25
  refine CondB.neg rfl (Ld.o2 (w5.kp k1214) n5 r5 rfl (Ld.o2 w6 n6 r6 rfl (RunT.imp ?_ (Apply_c ((s5.kp k12).kp k1214) (s6.kp k14')))))
  rintro H15 (n7 : AC) (r7 : Int) (e7 : Int) ⟨res7, k15⟩
  refine NewSto.own rfl fun c7 H16 hc7 hs16 w7 k16' => ?_
  have k1416 := k15.trans k16'
  have k816 := k814.trans k1416
  have kk16 := kk8.trans k816
  rw [af (.inr rfl) d5 d6] at res7
  obtain ⟨x, hx, hxl, rfl, rfl, hval⟩ := dTree hA0
  obtain ⟨h7, hr7, s7⟩ := res7.few hx hxl fun ρ => by
    rw [v5 ρ, v6 ρ, vN ρ, hxv ρ, hlv ρ, hrv ρ, hval, hval]
    have e : setA ρ w (ρ w) = ρ := setA_self ρ w
    unfold opB
    cases hρ : ρ w
    · rw [hρ] at e
      rw [e]
      simp
    · rw [hρ] at e
      rw [e]
      simp
  refine Ld.o2 ((o1.kp k18).kp k816) sa (ref (ser x []) x) rfl (NewS.own fun vb H17 hvb hs17 ov k17 => ?_)
  have kk17 := kk16.trans k17
  have hsv : SlR H17 (.sl (some (vb, 0)) 1 1 (some 1)) 1 (iRows [(w : Int)]) := by
    have := ov.slr (some 1)
    exact this
  refine RunT.imp ?_ (Exists_c (ha.kp kk17) hsv (kk17.gw.1 hw) (by simp) (by simp))
  rintro H18 (n8 : AC) (r8 : Int) (e8 : Int) ⟨res8, k18'⟩
  refine NewSto.own rfl fun c8 H19 hc8 hs19 w8 k19 => ?_
  have k1719 := k18'.trans k19
  have k1619 := k17.trans k1719
  have k819 := k816.trans k1619
  have kk19 := kk8.trans k819
  refine Ld.o2 ((w1.kp k48).kp k819) n1 r1 rfl (Ld.o2 ((w2.kp k68).kp k819) n2 r2 rfl (RunT.imp ?_ (Apply_c (sL8.kp k819) (sR8.kp k819))))
  rintro H20 (n9 : AC) (r9 : Int) (e9 : Int) ⟨res9, k20⟩
  refine NewSto.own rfl fun c9 H21 hc9 hs21 w9 k21 => ?_
  have k1921 := k20.trans k21
  have k1621 := k1619.trans k1921
  have k821 := k816.trans k1621
  have kk21 := kk8.trans k821
  rw [af (.inr rfl) dL dR] at res9
  have hef : eFault (rowsOf x) (ref (ser x []) x) [(w : Int)] = 0 := by
    unfold eFault
    rw [if_neg (by omega), if_neg (by rintro ⟨p, hp, h⟩; obtain rfl := List.mem_singleton.1 hp; omega)]
  rw [hef] at res8
  obtain ⟨he89, hr89, l8, hl8, t8, t9⟩ := (res8.kp (k19.trans k1921)).same (res9.kp k21) fun _ ρ => by
    have e : exL (natsOf [(w : Int)]) (dVal (rowsOf x) (ref (ser x []) x)) ρ = (dVal (rowsOf x) (ref (ser x []) x) (setA ρ w false) || dVal (rowsOf x) (ref (ser x []) x) (setA ρ w true)) := rfl
    rw [e, hlv ρ, hrv ρ]
    rfl
  refine CondB.pos (by rw [h5]; rfl) (CondB.pos (by rw [h6]; rfl) (CondB.pos (by rw [h7]; rfl) ?_))
  refine Ld.o2 (w7.kp k1621) n7 r7 rfl (Ld.o2 ((o1.kp k18).kp k821) sa (ref (ser x []) x) rfl (RunT.imp ?_ (SameDiagram_c ((s7.kp k16').kp k1621) (ha.kp kk21) (by rw [List.length_map]; omega))))
  rintro H22 q ⟨rfl, k22⟩
  refine CondB.pos (by simp [hr7]) (CondB.pos (by rw [he89]; simp) ?_)
  refine Ld.o2 ((w8.kp k1921).kp k22) n8 r8 rfl (Ld.o2 (w9.kp k22) n9 r9 rfl (RunT.imp ?_ (SameDiagram_c (t8.kp k22) (t9.kp k22) (by omega))))
  rintro H23 q ⟨rfl, k23⟩
  refine CondB.pos (by simp [hr89]) (RunT.imp ?_ built_c)
  rintro H24 q ⟨rfl, k24⟩
  exact ⟨rfl, ((kk21.trans k22).trans k23).trans k24⟩
end Go.Proofs.Ytanaaabejeeakaa
end
