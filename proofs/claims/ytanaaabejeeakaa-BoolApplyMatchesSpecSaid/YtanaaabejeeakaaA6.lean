/- Joined by a program: what the proof of the law leans on, part 6. -/
import Derived.Test.YtanaaabejeeakaaA5
import Derived.Test.YtanaaabejeeakaaRows
import Derived.WalkKit
import Derived.ProofKit
import Derived.OpenShut
import Derived.JoinedCond
import Derived.Below
import Derived.ChangeSame
set_option linter.unusedVariables false
set_option linter.unusedSimpArgs false
section
/- Which diagrams are taken. -/
namespace Go.Proofs.Ytanaaabejeeakaa
open Go.AI Go.AI.DT

theorem Equal_c {s s' : AC} {l l' : List NRow} {H : AHeap} (hs : SlR H s 3 (nodeRows l)) (hs' : SlR H s' 3 (nodeRows l')) (hlen : l'.length < 4611686018427387904) :
    Fn.slices_Equal_fetterlock_api_Node_fetterlock_api_Node s s' H fun H' q => H' = H ∧ q = decide (l = l') := by
  refine slices_Equal_fetterlock_api_Node_fetterlock_api_Node.run ?_
  unfold slices_Equal_fetterlock_api_Node_fetterlock_api_Node.W
  refine LenS.of hs (LenS.of hs' ?_)
  rw [nodeRows_len, nodeRows_len]
  refine CondB.ne (fun hne => ⟨rfl, ?_⟩) fun he => ?_
  · symm; rw [decide_eq_false_iff_not]; rintro rfl; exact hne rfl
  have hl : l.length = l'.length := by omega
  refine LenS.of hs ?_
  rw [nodeRows_len]
  unfold slices_Equal_fetterlock_api_Node_fetterlock_api_Node.l14
  refine LoopT.rule (fun m s0 H3 => ∃ i : Nat, i ≤ l.length ∧ m = l.length - i ∧ s0 = (s, s', (l.length : Int), (i : Int), ()) ∧ H3 = H ∧ ∀ j, j < i → l[j]? = l'[j]?) l.length ⟨0, by omega, by omega, rfl, rfl, fun j h => by omega⟩ ?_
  rintro m s0 H3 back ⟨i, hi, rfl, rfl, rfl, hall⟩ hback
  simp only [slices_Equal_fetterlock_api_Node_fetterlock_api_Node.b14]
  refine CondB.dec (fun hlt => ?_) fun hge => ?_
  · have hi' : i < l.length := by omega
    obtain ⟨p, hp⟩ : ∃ b, l[i]? = some b := ⟨_, List.getElem?_eq_getElem hi'⟩
    obtain ⟨p', hp'⟩ : ∃ b, l'[i]? = some b := ⟨_, List.getElem?_eq_getElem (by omega)⟩
    refine IA.of hs (by omega) (by rw [Int.toNat_natCast]; exact nodeRow_at hp) fun b1 o1 hld => Ld.a3 hld p.1 p.2.1 p.2.2 rfl rfl ?_
    refine IA.of hs' (by omega) (by rw [Int.toNat_natCast]; exact nodeRow_at hp') fun b1 o1 hld => Ld.a3 hld p'.1 p'.2.1 p'.2.2 rfl rfl ?_
    refine CondB.mk (fun hc => ⟨by trivial, ?_⟩) fun hc => ?_
    · symm
      rw [decide_eq_false_iff_not]
      rintro rfl
      rw [hp] at hp'
      cases hp'
      simp at hc
    · refine hback (l.length - (i + 1)) _ _ (by omega) ⟨i + 1, by omega, rfl, ?_, rfl, fun j hj => ?_⟩
      · exact tc rfl (tc rfl (tc rfl (tc ((wrap64 (by omega) (by omega)).trans (by omega)) rfl)))
      · by_cases hji : j = i
        · subst hji
          rw [hp, hp']
          have : p = p' := by
            simp only [Bool.not_eq_false', decide_eq_true_eq, List.cons.injEq, and_true] at hc
            exact Prod.ext hc.1 (Prod.ext hc.2.1 hc.2.2)
          rw [this]
        · exact hall j (by omega)
  · refine ⟨by trivial, ?_⟩
    symm
    rw [decide_eq_true_iff]
    apply List.ext_getElem?
    intro j
    by_cases hj : j < i
    · exact hall j hj
    · rw [List.getElem?_eq_none (by omega), List.getElem?_eq_none (by omega)]

theorem dFault_two {l : List NRow} {r : Int} (h1 : l.length ≤ 2000) (h2 : scan 0 l = 0) (h3 : ¬ CanonD l r) : dFault l r = 2 := by
  unfold dFault
  rw [if_neg (by omega), if_neg (by omega), if_neg h3]
theorem dFault_zero {l : List NRow} {r : Int} (h1 : l.length ≤ 2000) (h3 : CanonD l r) : dFault l r = 0 := by
  have h2 : scan 0 l = 0 := scan_ok.2 fun j p hp => by rw [Nat.zero_add]; exact (h3.of.1 j p hp).1
  unfold dFault
  rw [if_neg (by omega), if_neg (by omega), if_pos h3]
theorem dFault_scan {l : List NRow} {r : Int} (h1 : l.length ≤ 2000) {k : Int} (h2 : scan 0 l = k) (hk : k ≠ 0) : dFault l r = k := by
  unfold dFault
  rw [if_neg (by omega), if_pos (by omega), h2]

theorem CheckDiagram_c {s : AC} {l : List NRow} {r : Int} {H : AHeap} (hs : SlR H s 3 (nodeRows l)) :
    Fn.solve_CheckDiagram s r H fun H' q => q = dFault l r ∧ Kp H H' := by
  refine solve_CheckDiagram.run ?_
  unfold solve_CheckDiagram.W
  refine New.own fun b1 H1 hb1 hs1 o1 k1 => FA.mk (Ld.oc o1 rfl (LenS.of (hs.kp k1) ?_))
  rw [nodeRows_len]
  refine CondB.dec (fun hgt => ⟨?_, k1⟩) fun hle => ?_
  · unfold dFault; rw [if_pos (by omega)]
  have hlen : l.length ≤ 2000 := by omega
  refine FA.mk (Ld.oc o1 rfl (LenS.of (hs.kp k1) ?_))
  rw [nodeRows_len]
  unfold solve_CheckDiagram.l14
  refine LoopT.rule (fun m s0 H2 => ∃ i : Nat, i ≤ l.length ∧ m = l.length - i ∧ s0 = (.ptr (some (b1, 0)), s, (l.length : Int), (i : Int), ()) ∧ Kp H H2 ∧ Own H2 b1 [s, .int .i64 r] ∧ scan 0 l = scan i (l.drop i)) l.length
    ⟨0, by omega, by omega, rfl, k1, o1, rfl⟩ ?_
  rintro m s0 H2 back ⟨i, hi, rfl, rfl, k2, o12, hsc⟩ hback
  simp only [solve_CheckDiagram.b14]
  refine CondB.dec (fun hlt => ?_) fun hge => ?_
  · have hi' : i < l.length := by omega
    obtain ⟨p, hp⟩ : ∃ b, l[i]? = some b := ⟨_, List.getElem?_eq_getElem hi'⟩
    rw [scan_drop hp] at hsc
    refine IA.of (hs.kp k2) (by omega) (by rw [Int.toNat_natCast]; exact nodeRow_at hp) fun b o hld => Ld.a3 hld p.1 p.2.1 p.2.2 rfl rfl ?_
    refine NewSto.own rfl fun nb H3 hnb hs3 on k3 => FA.mk (Ld.oi on rfl ?_)
    have kk := k2.trans k3
    unfold solve_CheckDiagram.p28
    refine CondB.dec (fun h0 => CondB.pos rfl ⟨?_, kk⟩) fun h0 => FA.mk (Ld.oi on rfl (CondB.dec (fun h1 => ⟨?_, kk⟩) fun h1 => ?_))
    · rw [if_pos (.inl h0)] at hsc; exact (dFault_scan hlen hsc (by omega)).symm
    · rw [if_pos (.inr (by omega))] at hsc; exact (dFault_scan hlen hsc (by omega)).symm
    rw [if_neg (by omega)] at hsc
    unfold solve_CheckDiagram.p34
    refine FA.mk (Ld.oi on rfl (CondB.dec (fun h2 => CondB.pos rfl ⟨?_, kk⟩) fun h2 => FA.mk (Ld.oi on rfl (CondB.dec (fun h3 => CondB.pos rfl ⟨?_, kk⟩) fun h3 => FA.mk (Ld.oi on rfl (CondB.dec (fun h4 => CondB.pos rfl ⟨?_, kk⟩) fun h4 => FA.mk (Ld.oi on rfl (CondB.dec (fun h5 => ⟨?_, kk⟩) fun h5 => ?_))))))))
    · rw [if_pos (by omega)] at hsc; exact (dFault_scan hlen hsc (by omega)).symm
    · rw [if_pos (by omega)] at hsc; exact (dFault_scan hlen hsc (by omega)).symm
    · rw [if_pos (by omega)] at hsc; exact (dFault_scan hlen hsc (by omega)).symm
    · rw [if_pos (by omega)] at hsc; exact (dFault_scan hlen hsc (by omega)).symm
    rw [if_neg (by omega)] at hsc
    refine hback (l.length - (i + 1)) _ _ (by omega) ⟨i + 1, by omega, rfl, ?_, kk, o12.kp k3, hsc⟩
    exact tc rfl (tc rfl (tc rfl (tc ((wrap64 (by omega) (by omega)).trans (by omega)) rfl)))
  have hsc0 : scan 0 l = 0 := by
    rw [hsc, List.drop_eq_nil_iff.2 (by omega)]; rfl
  have hnum : ∀ j p, l[j]? = some p → NumOk j p := fun j p hp => by have := scan_ok.1 hsc0 j p hp; rwa [Nat.zero_add] at this
  refine FA.mk (Ld.oc o12 rfl (LenS.of (hs.kp k2) ?_))
  rw [nodeRows_len]
  unfold solve_CheckDiagram.l44
  refine LoopT.rule (fun m s0 H3 => ∃ i : Nat, i ≤ l.length ∧ m = l.length - i ∧ s0 = (.ptr (some (b1, 0)), s, (l.length : Int), (i : Int), ()) ∧ Kp H H3 ∧ Own H3 b1 [s, .int .i64 r] ∧ ∀ j p, j < i → l[j]? = some p → OrdOk l p) l.length
    ⟨0, by omega, by omega, rfl, k2, o12, fun j p h => by omega⟩ ?_
  clear hback back
  rintro m s0 H3 back ⟨i, hi, rfl, rfl, k3, o13, hord⟩ hback
  simp only [solve_CheckDiagram.b44]
  refine CondB.dec (fun hlt => ?_) fun hge => ?_
  · have hi' : i < l.length := by omega
    obtain ⟨p, hp⟩ : ∃ b, l[i]? = some b := ⟨_, List.getElem?_eq_getElem hi'⟩
    have hn := hnum i p hp
    unfold NumOk at hn
    obtain ⟨n1, n2, n3, n4, n5, n6⟩ := hn
    refine IA.of (hs.kp k3) (by omega) (by rw [Int.toNat_natCast]; exact nodeRow_at hp) fun b o hld => Ld.a3 hld p.1 p.2.1 p.2.2 rfl rfl ?_
    refine NewSto.own rfl fun nb H4 hnb hs4 on k4 => FA.mk (Ld.oi on rfl (FA.mk (Ld.oi on rfl (NewS.own fun ab H5 hab hs5 oa k5 => LenS.mk ?_))))
    have kk := (k3.trans k4).trans k5
    have on5 := on.kp k5
    have o15 := (o13.kp k4).kp k5
    unfold solve_CheckDiagram.l58
    refine LoopT.rule (fun m s0 H6 => ∃ k : Nat, k ≤ 2 ∧ m = 2 - k ∧ s0 = (.ptr (some (b1, 0)), .ptr (some (nb, 0)), s, (l.length : Int), (i : Int), .sl (some (ab, 0)) 1 2 (some 2), (2 : Int), (k : Int), ()) ∧ H6 = H5 ∧
      (0 < k → ∀ q, 0 ≤ p.2.1 → l[p.2.1.toNat]? = some q → p.1 < q.1) ∧ (1 < k → ∀ q, 0 ≤ p.2.2 → l[p.2.2.toNat]? = some q → p.1 < q.1)) 2 ⟨0, by omega, rfl, rfl, rfl, fun h => by omega, fun h => by omega⟩ ?_
    rintro m s0 H6 back2 ⟨k, hk, rfl, rfl, rfl, hk1, hk2⟩ hback2
    simp only [solve_CheckDiagram.b58]
    refine CondB.dec (fun hlt2 => ?_) fun hge2 => ?_
    · have hbad : ∀ c : Int, (c = p.2.1 ∨ c = p.2.2) → ∀ q, 0 ≤ c → l[c.toNat]? = some q → ¬ p.1 < q.1 → dFault l r = 2 := by
        intro c hc q h0 hq hlt
        refine dFault_two hlen hsc0 fun hcan => ?_
        have := (hcan.of.1 i p hp).2
        rcases hc with rfl | rfl
        · exact hlt (this.1 q h0 hq)
        · exact hlt (this.2 q h0 hq)
      have main : ∀ c : Int, (c = p.2.1 ∨ c = p.2.2) → ((∀ q, 0 ≤ c → l[c.toNat]? = some q → p.1 < q.1) → back2 (.ptr (some (b1, 0)), .ptr (some (nb, 0)), s, (l.length : Int), (i : Int), .sl (some (ab, 0)) 1 2 (some 2), (2 : Int), IntKind.wrap .i64 ((k : Int) + 1), ()) H6) →
          CondB (decide (c ≥ 0))
            (FA 0 (.ptr (some (b1, 0))) fun q_3 =>
            Ld [.ac] H6 q_3 fun (v_4 : AC) =>
            IA 3 v_4 c fun q_5 =>
            FA 0 q_5 fun q_6 =>
            Ld [.int .i64] H6 q_6 fun (v_7 : Int) =>
            FA 0 (.ptr (some (nb, 0))) fun q_8 =>
            Ld [.int .i64] H6 q_8 fun (v_9 : Int) =>
            solve_CheckDiagram.p71 (fun H' q => q = dFault l r ∧ Kp H H') back back2 (.ptr (some (b1, 0))) (.ptr (some (nb, 0))) s (l.length : Int) (i : Int) (.sl (some (ab, 0)) 1 2 (some 2)) (2 : Int) (k : Int) (decide (v_7 ≤ v_9)) H6)
            (solve_CheckDiagram.p71 (fun H' q => q = dFault l r ∧ Kp H H') back back2 (.ptr (some (b1, 0))) (.ptr (some (nb, 0))) s (l.length : Int) (i : Int) (.sl (some (ab, 0)) 1 2 (some 2)) (2 : Int) (k : Int) false H6) := by
        intro c hc hgo
        unfold solve_CheckDiagram.p71
        refine CondB.dec (fun h0 => ?_) fun h0 => CondB.neg rfl (hgo fun q h1 => by omega)
        have hclt : c.toNat < l.length := by rcases hc with rfl | rfl <;> omega
        obtain ⟨q, hq⟩ : ∃ b, l[c.toNat]? = some b := ⟨_, List.getElem?_eq_getElem hclt⟩
        refine FA.mk (Ld.oc o15 rfl (IA.of (hs.kp kk) h0 (nodeRow_at hq) fun b o hld => FA.mk (Ld.ei hld rfl (FA.mk (Ld.oi on5 rfl ?_)))))
        refine CondB.dec (fun h1 => ⟨(hbad c hc q h0 hq (by omega)).symm, kk⟩) fun h1 => hgo fun q' _ hq' => ?_
        rw [hq] at hq'
        cases hq'
        omega
      refine IA.mk (by omega) (by omega) ?_
      have hk' : k = 0 ∨ k = 1 := by omega
      rcases hk' with rfl | rfl
      · refine Ld.oi oa rfl (main p.2.1 (.inl rfl) fun hq => ?_)
        exact hback2 1 _ _ (by omega) ⟨1, by omega, rfl, by trivial, rfl, fun _ => hq, fun h => by omega⟩
      · refine Ld.oi oa rfl (main p.2.2 (.inr rfl) fun hq => ?_)
        exact hback2 0 _ _ (by omega) ⟨2, by omega, rfl, by trivial, rfl, fun _ => hk1 (by omega), fun _ => hq⟩
    · refine hback (l.length - (i + 1)) _ _ (by omega) ⟨i + 1, by omega, rfl, ?_, kk, o15, fun j q hj hq => ?_⟩
      · exact tc rfl (tc rfl (tc rfl (tc ((wrap64 (by omega) (by omega)).trans (by omega)) rfl)))
      · by_cases hji : j = i
        · subst hji
          rw [hp] at hq
          cases hq
          exact ⟨hk1 (by omega), hk2 (by omega)⟩
        · exact hord j q (by omega) hq
  have hok : RowsOk l := fun j p hp => ⟨hnum j p hp, hord j p (by have := (List.getElem?_eq_some_iff.1 hp).1; omega) hp⟩
  unfold solve_CheckDiagram.p81
  refine FA.mk (Ld.oi o13 rfl (CondB.dec (fun h1 => CondB.pos rfl ⟨?_, k3⟩) fun h1 => FA.mk (Ld.oi o13 rfl (FA.mk (Ld.oc o13 rfl (LenS.of (hs.kp k3) ?_))))))
  · exact (dFault_two hlen hsc0 fun hc => by have := hc.of.2.1; omega).symm
  rw [nodeRows_len]
  refine CondB.dec (fun h2 => ⟨?_, k3⟩) fun h2 => ?_
  · exact (dFault_two hlen hsc0 fun hc => by have := hc.of.2.2.1; omega).symm
  refine RunT.imp ?_ newManager_c
  rintro H4 m ⟨⟨F, hm, hF⟩, k4⟩
  have kk4 := k3.trans k4
  have hz3 := k3.size
  refine Ld.o2 (o13.kp k4) s r rfl (RunT.imp ?_ (add_c hs (Kp.old kk4) hm (fun x h => by have := hF x h; omega) hok (by omega) (by omega) hlen (by simp)))
  rintro H5 q ⟨F5, ts5, af, hin, rfl⟩
  have kk5 : Kp H H5 := kk4.fresh af.keep fun x h => by have := hF x h; omega
  have hl5 := af.len
  have o15 : Own H5 b1 [s, .int .i64 r] := (o13.kp k4).keep af.keep fun h => by have := hF _ h; have := o13.lt; omega
  refine RunT.imp ?_ (diagram_c af.mgr hin (by simp at hl5; omega))
  rintro H6 ns root ⟨⟨Fo, hsl, hFo⟩, rfl, k6⟩
  refine NewSto.own rfl fun nb H7 hnb hs7 on k7 => ?_
  have kk7 := (kk5.trans k6).trans k7
  have o17 := (o15.kp k6).kp k7
  refine FA.mk (Ld.oi on rfl (FA.mk (Ld.oi o17 rfl ?_)))
  unfold solve_CheckDiagram.p93
  refine CondB.ne (fun hne => CondB.pos rfl ⟨?_, kk7⟩) fun he => ?_
  · exact (dFault_two hlen hsc0 fun hc => hne hc.of.2.2.2.2.2.symm).symm
  refine FA.mk (Ld.oc on rfl (FA.mk (Ld.oc o17 rfl (RunT.imp ?_ (Equal_c (hsl.kp k7).slr (hs.kp kk7) ?_)))))
  · rintro H8 q ⟨he', rfl⟩
    obtain rfl : H7 = H8 := he'.symm
    refine CondB.mk (fun hc => ⟨?_, kk7⟩) fun hc => ⟨?_, kk7⟩
    · exact (dFault_two hlen hsc0 fun hcan => by
        have := hcan.of.2.2.2.2.1
        rw [← this] at hc
        simp at hc).symm
    · have e : (ser (atR (bld l) r) []).map (row (ser (atR (bld l) r) [])) = l := by simpa using hc
      exact (dFault_zero hlen (CanonD.mk hok e.symm he.symm)).symm
  · omega
end Go.Proofs.Ytanaaabejeeakaa
end
section
/- How many assignments a tree is true for. -/
namespace Go.AI
open DT

def cnt (n : Nat) : Nat → DT → Nat
  | _, leaf false => 0
  | v, leaf true => 2 ^ (n - v)
  | v, nd w l h => (cnt n (w + 1) l + cnt n (w + 1) h) * 2 ^ (w - v)
def VarsLt (n : Nat) : DT → Prop
  | leaf _ => True
  | nd w l h => w < n ∧ VarsLt n l ∧ VarsLt n h
theorem cnt_le (n : Nat) : ∀ (x : DT) (v : Nat), x.RO → VarsLt n x → v ≤ n → v ≤ x.top → cnt n v x ≤ 2 ^ (n - v)
  | leaf false, v, _, _, _, _ => Nat.zero_le _
  | leaf true, v, _, _, _, _ => Nat.le_refl _
  | nd w l h, v, hr, hv, h1, h2 => by
    obtain ⟨_, _, t1, t2, r1, r2⟩ := hr
    obtain ⟨u0, u1, u2⟩ := hv
    simp only [top] at h2
    have e1 := cnt_le n l (w + 1) r1 u1 (by omega) (by omega)
    have e2 := cnt_le n h (w + 1) r2 u2 (by omega) (by omega)
    simp only [cnt]
    have e3 : 2 ^ (n - v) = 2 ^ (n - (w + 1)) * 2 * 2 ^ (w - v) := by
      rw [← Nat.pow_succ, ← Nat.pow_add]
      congr 1
      omega
    rw [e3]
    exact Nat.mul_le_mul_right _ (by omega)
theorem cnt_top (n v w : Nat) (l h : DT) : cnt n v (nd w l h) = cnt n w (nd w l h) * 2 ^ (w - v) := by
  simp only [cnt, Nat.sub_self, Nat.pow_zero, Nat.mul_one]
theorem varsLt_mem {n : Nat} : ∀ (x : DT) (st : List DT), VarsLt n x → ∀ y ∈ ser x st, y ∈ st ∨ VarsLt n y
  | leaf _, st, _, y, hy => .inl hy
  | nd v l h, st, hv, y, hy => by
    simp only [ser] at hy
    split at hy
    · exact .inl hy
    · rcases List.mem_append.1 hy with hy | hy
      · rcases varsLt_mem h _ hv.2.2 y hy with hy | hy
        · exact varsLt_mem l _ hv.2.1 y hy
        · exact .inr hy
      · simp at hy; subst hy; exact .inr hv
end Go.AI
end
section
/- The fault of a number of variables; Count. -/
namespace Go.Proofs.Ytanaaabejeeakaa
open Go.AI Go.AI.DT

theorem lt86 : 86 < Try.prog.funcs.size := (Array.getElem?_eq_some_iff.1 Try.func86).1
theorem lt58 : 58 < Try.prog.funcs.size := (Array.getElem?_eq_some_iff.1 Try.func58).1

theorem IndexFunc_c {s fn : AC} {l : List NRow} {H : AHeap} {f : NRow → Bool} (hs : SlR H s 3 (nodeRows l)) (hlen : l.length < 4611686018427387904)
    (hf : ∀ (p : NRow) (H2 : AHeap), Kp H H2 → CVT Try.prog [(false, [.bool])] fn [(.agg [(.int .i64 p.1), (.int .i64 p.2.1), (.int .i64 p.2.2)])] H2 fun H3 b => Kp H2 H3 ∧ b = f p) :
    Fn.slices_IndexFunc_fetterlock_api_Node_fetterlock_api_Node s fn H fun H' q => Kp H H' ∧ (0 ≤ q ↔ ∃ p ∈ l, f p = true) := by
  refine slices_IndexFunc_fetterlock_api_Node_fetterlock_api_Node.run ?_
  unfold slices_IndexFunc_fetterlock_api_Node_fetterlock_api_Node.W slices_IndexFunc_fetterlock_api_Node_fetterlock_api_Node.l6
  refine LenS.of hs ?_
  rw [nodeRows_len]
  refine LoopT.rule (fun m s0 H3 => ∃ i : Nat, i ≤ l.length ∧ m = l.length - i ∧ s0 = (s, fn, (l.length : Int), (i : Int), ()) ∧ Kp H H3 ∧ ∀ j p, j < i → l[j]? = some p → f p = false) l.length ⟨0, by omega, by omega, rfl, Kp.refl _, fun j p h => by omega⟩ ?_
  rintro m s0 H3 back ⟨i, hi, rfl, rfl, k3, hall⟩ hback
  simp only [slices_IndexFunc_fetterlock_api_Node_fetterlock_api_Node.b6]
  refine CondB.dec (fun hlt => ?_) fun hge => ?_
  · have hi' : i < l.length := by omega
    obtain ⟨p, hp⟩ : ∃ b, l[i]? = some b := ⟨_, List.getElem?_eq_getElem hi'⟩
    refine IA.of (hs.kp k3) (by omega) (by rw [Int.toNat_natCast]; exact nodeRow_at hp) fun b1 o1 hld => Ld.a3 hld p.1 p.2.1 p.2.2 rfl rfl ?_
    refine CVT.imp ?_ (hf p H3 k3)
    rintro H4 b ⟨k4, rfl⟩
    refine CondB.mk (fun hc => ⟨k3.trans k4, ?_⟩) fun hc => ?_
    · exact ⟨fun _ => ⟨p, List.mem_of_getElem? hp, hc⟩, fun _ => by show (0 : Int) ≤ (i : Int); omega⟩
    · refine hback (l.length - (i + 1)) _ _ (by omega) ⟨i + 1, by omega, rfl, ?_, k3.trans k4, fun j q hj hq => ?_⟩
      · exact tc rfl (tc rfl (tc rfl (tc ((wrap64 (by omega) (by omega)).trans (by omega)) rfl)))
      · by_cases hji : j = i
        · subst hji
          rw [hp] at hq
          cases hq
          exact hc
        · exact hall j q (by omega) hq
  · refine ⟨k3, fun h => by exfalso; have h' : (0 : Int) ≤ -1 := h; omega, fun ⟨p, hp, he⟩ => ?_⟩
    obtain ⟨j, hj, e⟩ := List.getElem_of_mem hp
    have := hall j p (by omega) (by rw [List.getElem?_eq_getElem hj, e])
    rw [this] at he; cases he

open Classical in
/-- The fault of a diagram with a number of variables. -/
noncomputable def vFault (l : List NRow) (r n : Int) : Int := if dFault l r ≠ 0 then dFault l r else if n < 0 ∨ 16 < n ∨ ∃ p ∈ l, n ≤ p.1 then 1 else 0

theorem dFault_len {l : List NRow} {r : Int} (h : dFault l r = 0) : l.length ≤ 2000 ∧ CanonD l r := by
  unfold dFault at h
  split at h
  · cases h
  split at h
  · next h1 => exact absurd h h1
  split at h
  · next h1 => exact ⟨by omega, h1⟩
  · cases h

theorem varsFault_c {s : AC} {l : List NRow} {r n : Int} {H : AHeap} (hs : SlR H s 3 (nodeRows l)) :
    Fn.solve_varsFault s r n H fun H' q => q = vFault l r n ∧ Kp H H' := by
  refine solve_varsFault.run ?_
  unfold solve_varsFault.W
  refine New.own fun b1 H1 hb1 hs1 o1 k1 => New.own fun b3 H3 hb3 hs3 o3 k3 => Ld.o2 (o1.kp k3) s r rfl ?_
  have kk := k1.trans k3
  refine RunT.imp ?_ (CheckDiagram_c (hs.kp kk))
  rintro H4 q ⟨rfl, k4⟩
  have kk4 := kk.trans k4
  have o34 := o3.kp k4
  refine CondB.mk (fun hne => ⟨?_, kk4⟩) fun he => ?_
  · unfold vFault; rw [if_pos (by simpa using hne)]
  have h0 : dFault l r = 0 := by simpa using he
  have hv : vFault l r n = if n < 0 ∨ 16 < n ∨ ∃ p ∈ l, n ≤ p.1 then 1 else 0 := by unfold vFault; rw [if_neg (by omega)]
  rw [hv]
  unfold solve_varsFault.p15
  refine Ld.oi o34 rfl (CondB.dec (fun h1 => CondB.pos rfl ⟨?_, kk4⟩) fun h1 => Ld.oi o34 rfl (CondB.dec (fun h2 => CondB.pos rfl ⟨?_, kk4⟩) fun h2 => ?_))
  · rw [if_pos (.inl h1)]
  · rw [if_pos (.inr (.inl (by omega)))]
  refine FA.mk (Ld.oc ((o1.kp k3).kp k4) rfl (Fnc.mk rfl rfl ?_))
  refine slices_ContainsFunc_fetterlock_api_Node_fetterlock_api_Node.run ?_
  unfold slices_ContainsFunc_fetterlock_api_Node_fetterlock_api_Node.W
  refine RunT.imp ?_ (IndexFunc_c (f := fun p => decide (p.1 ≥ n)) (hs.kp kk4) (by have := (dFault_len h0).1; omega) fun p H2 k2 => CVT.mk lt86 ?_)
  · rintro H5 (q : Int) ⟨k5, hq⟩
    refine CondB.mk (fun h3 => ⟨?_, kk4.trans k5⟩) fun h3 => ⟨?_, kk4.trans k5⟩
    · obtain ⟨p, hp, he⟩ := hq.1 (@of_decide_eq_true _ _ h3)
      rw [if_pos (.inr (.inr ⟨p, hp, by simpa using he⟩))]
    · rw [if_neg]
      rintro (h | h | ⟨p, hp, he⟩)
      · exact h1 h
      · omega
      · exact @of_decide_eq_false _ _ h3 (hq.2 ⟨p, hp, by simpa using he⟩)
  · refine solve_varsFault_1.run ?_
    unfold solve_varsFault_1.W
    refine New.own fun nb H6 hnb hs6 on k6 => FA.mk (Ld.oi on rfl (Ld.oi ((o34.kp k2).kp k6) rfl ⟨k6, rfl⟩))

theorem pow2_lt {k : Nat} (h : k ≤ 16) : 2 ^ k ≤ 65536 := Nat.pow_le_pow_right (n := 2) (by omega) h

theorem Count1_c {st : List DT} {t : DT} {v n i b1 b3 pb cb : Nat} {s : AC} {r : Int} {cs : List AC} {H : AHeap} (ht : In st t) (hro : t.RO) (hvl : VarsLt n t) (hn : n ≤ 16) (hv : v ≤ n) (hvt : v ≤ t.top)
    (o3 : Own H b3 [.int .i64 (n : Int)]) (op : Own H pb [.sl (some (cb, 0)) 1 st.length (some st.length)]) (oc : Own H cb cs) (hcl : cs.length = st.length) (o1 : Own H b1 [s, .int .i64 r]) (hs : SlR H s 3 (nodeRows (st.map (row st))))
    (hmade : ∀ j t', j < i → st[j]? = some t' → cs[j]? = some (.int .i64 (cnt n t'.top t' : Int))) (hti : ref st t < i) :
    Fn.solve_Count_1 (ref st t) (v : Int) (.ptr (some (b3, 0))) (.ptr (some (pb, 0))) (.ptr (some (b1, 0))) H fun H' q => H' = H ∧ q = (cnt n v t : Int) := by
  refine solve_Count_1.run ?_
  unfold solve_Count_1.W
  have hle := cnt_le n t v hro hvl hv hvt
  have hp16 : 2 ^ (n - v) ≤ 65536 := pow2_lt (by omega)
  cases t with
  | leaf b =>
    cases b with
    | false => exact CondB.pos rfl ⟨rfl, rfl⟩
    | true =>
      refine CondB.neg rfl (CondB.pos rfl (Ld.oi o3 rfl ?_))
      have e : IntKind.wrap .i64 ((n : Int) - (v : Int)) = ((n - v : Nat) : Int) := (wrap64 (by omega) (by omega)).trans (by omega)
      rw [e]
      refine ⟨by omega, rfl, ?_⟩
      have := shl_nat (x := 1) (v := n - v) (by omega) (by rw [Nat.shiftLeft_eq, Nat.one_mul]; omega)
      rw [Nat.shiftLeft_eq, Nat.one_mul] at this
      exact this
  | nd w l h =>
    have h0 : 0 ≤ ref st (nd w l h) := by rw [ref_ge]; omega
    refine CondB.neg ?_ (CondB.neg ?_ (Ld.oc op rfl ?_))
    · simp only [beq_eq_false_iff_ne, ne_eq]; omega
    · simp only [beq_eq_false_iff_ne, ne_eq]; omega
    have hg := ref_get ht h0
    have hlt := (List.getElem?_eq_some_iff.1 hg).1
    have hc := hmade _ _ (by omega) hg
    refine IA.mk h0 (by omega) (Ld.oi oc (by rw [Nat.zero_add, Nat.mul_one]; exact hc) ?_)
    refine FA.mk (Ld.oc o1 rfl (IA.of hs h0 (nodeRow_at (by rw [List.getElem?_map, hg]; rfl)) fun b o hld => FA.mk (Ld.ei hld rfl ?_)))
    simp only [top] at hvt
    have hw := hvl.1
    have e : IntKind.wrap .i64 ((w : Int) - (v : Int)) = ((w - v : Nat) : Int) := (wrap64 (by omega) (by omega)).trans (by omega)
    refine GE0.mk ?_ ⟨by trivial, ?_⟩
    · show 0 ≤ IntKind.wrap .i64 ((w : Int) - (v : Int))
      rw [e]; omega
    · show shl .i64 (cnt n w (nd w l h) : Int) (IntKind.wrap .i64 ((w : Int) - (v : Int))) = _
      rw [cnt_top] at hle
      have := shl_nat (x := cnt n w (nd w l h)) (v := w - v) (by omega) (by rw [Nat.shiftLeft_eq]; omega)
      rw [Nat.shiftLeft_eq] at this
      rw [e, cnt_top n v]
      exact this

theorem Count_c {s : AC} {x : DT} {n : Nat} {H : AHeap} (hx : x.RO) (hs : SlR H s 3 (nodeRows ((ser x []).map (row (ser x []))))) (hlen : (ser x []).length ≤ 2000) (hn : n ≤ 16) (hvl : VarsLt n x) :
    Fn.solve_Count s (ref (ser x []) x) (n : Int) H fun H' q e => q = (cnt n 0 x : Int) ∧ e = 0 ∧ Kp H H' := by
  refine solve_Count.run ?_
  unfold solve_Count.W
  obtain ⟨st, hst⟩ : ∃ st, st = ser x [] := ⟨_, rfl⟩
  have hseq : Seq st := by rw [hst]; exact ser_seq x [] hx Seq.nil
  have hinx : In st x := by rw [hst]; exact ser_in x []
  have hvars : ∀ y ∈ st, VarsLt n y := by
    intro y hy
    rw [hst] at hy
    rcases varsLt_mem x [] hvl y hy with h | h
    · cases h
    · exact h
  have hcan : vFault (st.map (row st)) (ref st x) n = 0 := by
    have : dFault (st.map (row st)) (ref st x) = 0 := dFault_zero (by rw [List.length_map, hst]; exact hlen) ⟨x, hx, by rw [hst], by rw [hst]⟩
    unfold vFault
    rw [if_neg (by omega), if_neg]
    rintro (h | h | ⟨p, hp, h⟩)
    · omega
    · omega
    · obtain ⟨y, hy, rfl⟩ := List.mem_map.1 hp
      obtain ⟨v, a, b, rfl, _⟩ := hseq.1.parts y hy
      have := (hvars _ hy).1
      simp only [row] at h
      omega
  rw [← hst] at hs hlen ⊢
  refine New.own fun b1 H1 hb1 hs1 o1 k1 => New.own fun b3 H3 hb3 hs3 o3 k3 => Ld.o2 (o1.kp k3) s (ref st x) rfl (Ld.oi o3 rfl ?_)
  have kk := k1.trans k3
  refine RunT.imp ?_ (varsFault_c (hs.kp kk))
  rintro H4 q ⟨rfl, k4⟩
  have kk4 := kk.trans k4
  rw [hcan]
  refine CondB.neg rfl (FA.mk (Ld.oc ((o1.kp k3).kp k4) rfl (LenS.of (hs.kp kk4) ?_)))
  rw [nodeRows_len, List.length_map]
  refine MkS.own (n := st.length) (by omega) (by omega) fun cb H5 hcb hs5 oc k5 => NewSto.own rfl fun pb H6 hpb hs6 op k6 => Fnc.mk rfl rfl ?_
  have kk6 := (kk4.trans k5).trans k6
  have o16 := (((o1.kp k3).kp k4).kp k5).kp k6
  have o36 := ((o3.kp k4).kp k5).kp k6
  refine FA.mk (Ld.oc o16 rfl (LenS.of (hs.kp kk6) ?_))
  rw [nodeRows_len, List.length_map]
  have hz4 := kk4.size
  have hb14 := ((o1.kp k3).kp k4).lt
  have hb34 := (o3.kp k4).lt
  unfold solve_Count.l20
  refine LoopT.rule (fun mm s0 H7 => ∃ (i : Nat) (cs : List AC), i ≤ st.length ∧ mm = st.length - i ∧ s0 = (.ptr (some (b1, 0)), .ptr (some (pb, 0)), .fn 58 [] [(b3, 0), (pb, 0), (b1, 0)], s, (st.length : Int), (i : Int), ()) ∧
    Kp H H7 ∧ Own H7 b1 [s, .int .i64 (ref st x)] ∧ Own H7 b3 [.int .i64 (n : Int)] ∧ Own H7 pb [.sl (some (cb, 0)) 1 st.length (some st.length)] ∧ Own H7 cb cs ∧ cs.length = st.length ∧
    ∀ j t', j < i → st[j]? = some t' → cs[j]? = some (.int .i64 (cnt n t'.top t' : Int))) st.length
    ⟨0, _, by omega, by omega, rfl, kk6, o16, o36, op, oc.kp k6, by rw [List.length_replicate], fun j t h => by omega⟩ ?_
  rintro mm s0 H7 back ⟨i, cs, hi, rfl, rfl, k7, o17, o37, op7, oc7, hcl, hmade⟩ hback
  simp only [solve_Count.b20]
  refine CondB.dec (fun hlt => ?_) fun hge => ?_
  · have hi' : i < st.length := by omega
    obtain ⟨t, ht⟩ : ∃ b, st[i]? = some b := ⟨_, List.getElem?_eq_getElem hi'⟩
    have htm := List.mem_of_getElem? ht
    obtain ⟨v, l, h, rfl, h1, h2, h3⟩ := hseq.1.parts t htm
    obtain ⟨i1, i2⟩ := hseq.2 i v l h ht
    obtain ⟨_, r1⟩ := in_take i i1
    obtain ⟨_, r2⟩ := in_take i i2
    have hvv := hvars _ htm
    refine IA.of (hs.kp k7) (by omega) (by rw [Int.toNat_natCast]; exact nodeRow_at (p := row st (nd v l h)) (by rw [List.getElem?_map, ht]; rfl)) fun b o hld => Ld.a3 hld (v : Int) (ref st l) (ref st h) rfl rfl ?_
    refine NewSto.own rfl fun nb H8 hnb hs8 on k8 => Ld.oc (op7.kp k8) rfl (FA.mk (Ld.oi on rfl (FA.mk (Ld.oi on rfl ?_))))
    have hv16 := hvv.1
    have ev : IntKind.wrap .i64 ((v : Int) + 1) = ((v + 1 : Nat) : Int) := (wrap64 (by omega) (by omega)).trans (by omega)
    rw [ev]
    have k78 := k7.trans k8
    have tl := h3.2.2.1
    have th := h3.2.2.2.1
    refine CVT.imp ?_ (CVT.mk lt58 (Count1_c h1 h3.2.2.2.2.1 hvv.2.1 hn (by omega) (by omega) (o37.kp k8) (op7.kp k8) (oc7.kp k8) hcl (o17.kp k8) (hs.kp k78) hmade r1))
    rintro H9 q ⟨he, rfl⟩
    obtain rfl : H8 = H9 := he.symm
    refine FA.mk (Ld.oi on rfl (FA.mk (Ld.oi on rfl ?_)))
    rw [ev]
    refine CVT.imp ?_ (CVT.mk lt58 (Count1_c h2 h3.2.2.2.2.2 hvv.2.2 hn (by omega) (by omega) (o37.kp k8) (op7.kp k8) (oc7.kp k8) hcl (o17.kp k8) (hs.kp k78) hmade r2))
    rintro H9 q ⟨he, rfl⟩
    obtain rfl : H8 = H9 := he.symm
    refine IA.mk (by omega) (by omega) ?_
    refine Sto.cell (oc7.kp k8) (by rw [hcl]; omega) fun H10 oc10 k10 hs10 => ?_
    refine ⟨Same1.mk rfl, Same1.mk rfl, Same2.mk rfl, Same2.mk rfl, ?_⟩
    refine hback (st.length - (i + 1)) _ _ (by omega) ⟨i + 1, _, by omega, rfl, ?_, k78.fresh k10 fun y e => ?_, (o17.kp k8).keep k10 (by omega), (o37.kp k8).keep k10 (by omega), (op7.kp k8).keep k10 (by omega), oc10, by rw [List.length_set, hcl], fun j t' hj ht' => ?_⟩
    · exact tc rfl (tc rfl (tc rfl (tc rfl (tc rfl (tc ((wrap64 (by omega) (by omega)).trans (by omega)) rfl)))))
    · have e' : y = cb := e; omega
    · simp only [Int.toNat_natCast, Nat.mul_one, Nat.zero_add]
      by_cases hji : j = i
      · subst hji
        rw [ht] at ht'
        cases ht'
        rw [List.getElem?_set_self (by omega)]
        have c1 := cnt_le n l (v + 1) h3.2.2.2.2.1 hvv.2.1 (by omega) (by omega)
        have c2 := cnt_le n h (v + 1) h3.2.2.2.2.2 hvv.2.2 (by omega) (by omega)
        have c3 : 2 ^ (n - (v + 1)) ≤ 65536 := pow2_lt (by omega)
        have e : IntKind.wrap .i64 ((cnt n (v + 1) l : Int) + (cnt n (v + 1) h : Int)) = (cnt n v (nd v l h) : Int) := by
          refine (wrap64 (by omega) (by omega)).trans ?_
          simp only [cnt, Nat.sub_self, Nat.pow_zero, Nat.mul_one]
          omega
        rw [e]
        rfl
      · rw [List.getElem?_set_ne (by omega)]
        exact hmade j t' (by omega) ht'
  · have hil : i = st.length := by omega
    have hmade' := hmade
    refine FA.mk (Ld.oi o17 rfl ?_)
    refine CVT.imp ?_ (CVT.mk lt58 (Count1_c (v := 0) hinx hx hvl hn (by omega) (by omega) o37 op7 oc7 hcl o17 (hs.kp k7) hmade (by have := (ref_lt hinx).2; omega)))
    rintro H9 q ⟨he, rfl⟩
    obtain rfl : H7 = H9 := he.symm
    exact ⟨by trivial, by trivial, k7⟩
end Go.Proofs.Ytanaaabejeeakaa
end
section
/- Printed by a program: functions and what must hold ahead of them. -/
namespace Go.Proofs.Ytanaaabejeeakaa
open Go.AI
set_option maxRecDepth 100000
set_option maxHeartbeats 2000000
set_option linter.unusedVariables false
attribute [local irreducible] Ld Sto New NewS NewM NN NZ GE0 FA IA IAP LenS Slc App Cpy Clr MkS Fnc NilQ IxS Look MSet Run CV RunT CVT LoopT Same1 Same2 wpC wpOs wpT wpO wpOp

def fetterlocklaw6_BoolApplyMatchesSpec.c : RC := (.seq (.ops [.put 4 (.box 27 (.tm 1)),
    .put 5 (.box 27 (.tm 2)),
    .put 6 (.mov (.ct (.one (.bool false))))]) (.seq (.ops [.put 16 (.mov (.tm 0)),
    .put 17 (.ld true [.ac, .int .i64] (.tm 4)),
    .put 18 (.ld true [.ac, .int .i64] (.tm 5)),
    .put 19 (.call 20 [(.tm 16), (.tm 17), (.tm 18)]),
    .put 15 (.mov (.tm 19)),
    .put 20 (.ex (.tm 15) 0),
    .put 21 (.ex (.tm 15) 1),
    .put 7 (.new 27 [(.sl none 0 0 (some 0)), (.int .i64 0)]),
    .run (.st 2 (.tm 7) (.tm 20)),
    .put 8 (.mov (.tm 21))]) (.seq (.ops [.put 23 (.mov (.tm 0)),
    .put 24 (.ld true [.ac, .int .i64] (.tm 4)),
    .put 25 (.ld true [.ac, .int .i64] (.tm 5)),
    .put 26 (.call 21 [(.tm 23), (.tm 24), (.tm 25)]),
    .put 22 (.mov (.tm 26)),
    .put 27 (.ex (.tm 22) 0),
    .put 28 (.ex (.tm 22) 1),
    .put 9 (.new 27 [(.sl none 0 0 (some 0)), (.int .i64 0)]),
    .run (.st 2 (.tm 9) (.tm 27)),
    .put 10 (.mov (.tm 28))]) (.seq (.ops [.put 30 (.ld true [.ac, .int .i64] (.tm 4)),
    .put 31 (.call 22 [(.tm 30)]),
    .put 29 (.mov (.tm 31)),
    .put 32 (.ex (.tm 29) 0),
    .put 33 (.ex (.tm 29) 1),
    .put 11 (.new 27 [(.sl none 0 0 (some 0)), (.int .i64 0)]),
    .run (.st 2 (.tm 11) (.tm 32)),
    .put 12 (.mov (.tm 33))]) (.seq (.ops [.put 35 (.ld true [.ac, .int .i64] (.tm 4)),
    .put 36 (.call 23 [(.tm 35)]),
    .put 34 (.mov (.tm 36)),
    .put 37 (.ex (.tm 34) 0),
    .put 38 (.ex (.tm 34) 1),
    .put 13 (.new 27 [(.sl none 0 0 (some 0)), (.int .i64 0)]),
    .run (.st 2 (.tm 13) (.tm 37)),
    .put 14 (.mov (.tm 38))]) (.seq (.ops [.put 39 (.mov (.tm 8)),
    .put 40 (.mov (.tm 10)),
    .put 41 (.cm .eq (.tm 39) (.tm 40)),
    .put 42 (.mov (.tm 41)),
    .gput 43 42 true (.mov (.tm 12)),
    .gput 44 42 true (.mov (.tm 14)),
    .gput 45 42 true (.cm .eq (.tm 43) (.tm 44)),
    .put 46 (.pick (.tm 42) (.tm 45) (.ct (.one (.bool false)))),
    .put 47 (.mov (.tm 46)),
    .gput 48 47 true (.ld true [.ac, .int .i64] (.tm 7)),
    .gput 49 47 true (.ld true [.ac, .int .i64] (.tm 9)),
    .gput 50 47 true (.call 18 [(.tm 48), (.tm 49)]),
    .put 51 (.pick (.tm 47) (.tm 50) (.ct (.one (.bool false)))),
    .put 52 (.mov (.tm 51)),
    .gput 53 52 true (.ld true [.ac, .int .i64] (.tm 11)),
    .gput 54 52 true (.ld true [.ac, .int .i64] (.tm 13)),
    .gput 55 52 true (.call 18 [(.tm 53), (.tm 54)]),
    .put 56 (.pick (.tm 52) (.tm 55) (.ct (.one (.bool false)))),
    .put 57 (.mov (.tm 56)),
    .gput 58 57 true (.call 19 []),
    .put 59 (.pick (.tm 57) (.tm 58) (.ct (.one (.bool false)))),
    .put 6 (.mov (.tm 59))]) .ret))))))
abbrev fetterlocklaw6_BoolApplyMatchesSpec.KQ (Q : AHeap → Bool → Prop) : AV → AHeap → Prop := fun v H => ∃ xs : Tup (flat [(false, [.bool])]), v = joinR (splitP [(false, [.bool])] (cellsOf (flat [(false, [.bool])]) xs)) ∧ app (flat [(false, [.bool])]) (Q H) xs
abbrev fetterlocklaw6_BoolApplyMatchesSpec.K (Q : AHeap → Bool → Prop) : Ex → Env → AHeap → Prop := kTop [.tm 6] (fetterlocklaw6_BoolApplyMatchesSpec.KQ Q)
def fetterlocklaw6_BoolApplyMatchesSpec.W (a0 : Int) (a1_0 : AC) (a1_1 : Int) (a2_0 : AC) (a2_1 : Int) (H : AHeap) (Q : AHeap → Bool → Prop) : Prop :=
  New 27 [a1_0, (.int .i64 a1_1)] H fun p_1 H_2 =>
  New 27 [a2_0, (.int .i64 a2_1)] H_2 fun p_3 H_4 =>
  Ld [.ac, .int .i64] H_4 p_1 fun (v_5 : AC) (v_6 : Int) =>
  Ld [.ac, .int .i64] H_4 p_3 fun (v_7 : AC) (v_8 : Int) =>
  Fn.solve_Apply a0 v_5 v_6 v_7 v_8 H_4 fun H_9 (v_10 : AC) (v_11 : Int) (v_12 : Int) =>
  New 27 [(.sl none 0 0 (some 0)), (.int .i64 0)] H_9 fun p_13 H_14 =>
  Sto H_14 p_13 [v_10, (.int .i64 v_11)] fun H_15 =>
  Ld [.ac, .int .i64] H_15 p_1 fun (v_16 : AC) (v_17 : Int) =>
  Ld [.ac, .int .i64] H_15 p_3 fun (v_18 : AC) (v_19 : Int) =>
  Fn.fetterlockref6_Applied a0 v_16 v_17 v_18 v_19 H_15 fun H_20 (v_21 : AC) (v_22 : Int) (v_23 : Int) =>
  New 27 [(.sl none 0 0 (some 0)), (.int .i64 0)] H_20 fun p_24 H_25 =>
  Sto H_25 p_24 [v_21, (.int .i64 v_22)] fun H_26 =>
  Ld [.ac, .int .i64] H_26 p_1 fun (v_27 : AC) (v_28 : Int) =>
  Fn.solve_Not v_27 v_28 H_26 fun H_29 (v_30 : AC) (v_31 : Int) (v_32 : Int) =>
  New 27 [(.sl none 0 0 (some 0)), (.int .i64 0)] H_29 fun p_33 H_34 =>
  Sto H_34 p_33 [v_30, (.int .i64 v_31)] fun H_35 =>
  Ld [.ac, .int .i64] H_35 p_1 fun (v_36 : AC) (v_37 : Int) =>
  Fn.fetterlockref6_Negated v_36 v_37 H_35 fun H_38 (v_39 : AC) (v_40 : Int) (v_41 : Int) =>
  New 27 [(.sl none 0 0 (some 0)), (.int .i64 0)] H_38 fun p_42 H_43 =>
  Sto H_43 p_42 [v_39, (.int .i64 v_40)] fun H_44 =>
  CondB (v_12 == v_23)
    (CondB (v_32 == v_41)
      (Ld [.ac, .int .i64] H_44 p_13 fun (v_45 : AC) (v_46 : Int) =>
      Ld [.ac, .int .i64] H_44 p_24 fun (v_47 : AC) (v_48 : Int) =>
      Fn.fetterlockref6_SameDiagram v_45 v_46 v_47 v_48 H_44 fun H_49 (v_50 : Bool) =>
      CondB v_50
        (Ld [.ac, .int .i64] H_49 p_33 fun (v_51 : AC) (v_52 : Int) =>
        Ld [.ac, .int .i64] H_49 p_42 fun (v_53 : AC) (v_54 : Int) =>
        Fn.fetterlockref6_SameDiagram v_51 v_52 v_53 v_54 H_49 fun H_55 (v_56 : Bool) =>
        CondB v_56
          (Fn.fetterlocklaw6_built  H_55 fun H_57 (v_58 : Bool) =>
          Q H_57 v_58)
          (Q H_55 false))
        (Q H_49 false))
      (Q H_44 false))
    (Q H_44 false)
theorem fetterlocklaw6_BoolApplyMatchesSpec.ok {a0 : Int} {a1_0 : AC} {a1_1 : Int} {a2_0 : AC} {a2_1 : Int} {H : AHeap} (Q : AHeap → Bool → Prop) : fetterlocklaw6_BoolApplyMatchesSpec.W a0 a1_0 a1_1 a2_0 a2_1 H Q → wpF Try.prog fetterlocklaw6_BoolApplyMatchesSpec.c [.tm 6] (envOf [(.one (.int .i64 a0)), (.agg [a1_0, (.int .i64 a1_1)]), (.agg [a2_0, (.int .i64 a2_1)])]) H (fetterlocklaw6_BoolApplyMatchesSpec.KQ Q) := c_seq (c_ops (s_cons (w_put (o_box rfl (fun p_1 H_2 => s_cons (w_put (o_box rfl (fun p_3 H_4 => s_cons (w_put (o_mov rfl (s_nil (k_seq (c_seq (c_ops (s_cons (w_put (o_mov rfl (s_cons (w_put (o_ld2 rfl (fun (v_5 : AC) (v_6 : Int) => s_cons (w_put (o_ld2 rfl (fun (v_7 : AC) (v_8 : Int) => s_cons (w_put (o_call rfl (cv_a2_o1 (fun H_9 (v_10 : AC) (v_11 : Int) (v_12 : Int) => s_cons (w_put (o_mov rfl (s_cons (w_put (o_ex rfl rfl rfl (s_cons (w_put (o_ex rfl rfl rfl (s_cons (w_put (o_new (fun p_13 H_14 => s_cons (w_run (o_st rfl rfl rfl (fun H_15 => s_cons (w_put (o_mov rfl (s_nil (k_seq (c_seq (c_ops (s_cons (w_put (o_mov rfl (s_cons (w_put (o_ld2 rfl (fun (v_16 : AC) (v_17 : Int) => s_cons (w_put (o_ld2 rfl (fun (v_18 : AC) (v_19 : Int) => s_cons (w_put (o_call rfl (cv_a2_o1 (fun H_20 (v_21 : AC) (v_22 : Int) (v_23 : Int) => s_cons (w_put (o_mov rfl (s_cons (w_put (o_ex rfl rfl rfl (s_cons (w_put (o_ex rfl rfl rfl (s_cons (w_put (o_new (fun p_24 H_25 => s_cons (w_run (o_st rfl rfl rfl (fun H_26 => s_cons (w_put (o_mov rfl (s_nil (k_seq (c_seq (c_ops (s_cons (w_put (o_ld2 rfl (fun (v_27 : AC) (v_28 : Int) => s_cons (w_put (o_call rfl (cv_a2_o1 (fun H_29 (v_30 : AC) (v_31 : Int) (v_32 : Int) => s_cons (w_put (o_mov rfl (s_cons (w_put (o_ex rfl rfl rfl (s_cons (w_put (o_ex rfl rfl rfl (s_cons (w_put (o_new (fun p_33 H_34 => s_cons (w_run (o_st rfl rfl rfl (fun H_35 => s_cons (w_put (o_mov rfl (s_nil (k_seq (c_seq (c_ops (s_cons (w_put (o_ld2 rfl (fun (v_36 : AC) (v_37 : Int) => s_cons (w_put (o_call rfl (cv_a2_o1 (fun H_38 (v_39 : AC) (v_40 : Int) (v_41 : Int) => s_cons (w_put (o_mov rfl (s_cons (w_put (o_ex rfl rfl rfl (s_cons (w_put (o_ex rfl rfl rfl (s_cons (w_put (o_new (fun p_42 H_43 => s_cons (w_run (o_st rfl rfl rfl (fun H_44 => s_cons (w_put (o_mov rfl (s_nil (k_seq (c_seq (c_ops (s_cons (w_put (o_mov rfl (s_cons (w_put (o_mov rfl (s_cons (w_put (o_eq rfl rfl (s_cons (w_put (o_mov rfl (s_cons (w_gputT rfl (o_mov rfl (s_cons (w_gputY rfl (o_mov rfl (s_cons (w_gputY rfl (o_eq rfl rfl (s_cons (w_put (o_pickT rfl rfl (s_cons (w_put (o_mov rfl (s_cons (w_gputT rfl (o_ld2 rfl (fun (v_45 : AC) (v_46 : Int) => s_cons (w_gputY rfl (o_ld2 rfl (fun (v_47 : AC) (v_48 : Int) => s_cons (w_gputY rfl (o_call rfl (cv_1 (fun H_49 (v_50 : Bool) => s_cons (w_put (o_pickT rfl rfl (s_cons (w_put (o_mov rfl (s_cons (w_gputT rfl (o_ld2 rfl (fun (v_51 : AC) (v_52 : Int) => s_cons (w_gputY rfl (o_ld2 rfl (fun (v_53 : AC) (v_54 : Int) => s_cons (w_gputY rfl (o_call rfl (cv_1 (fun H_55 (v_56 : Bool) => s_cons (w_put (o_pickT rfl rfl (s_cons (w_put (o_mov rfl (s_cons (w_gputT rfl (o_call rfl (cv_1 (fun H_57 (v_58 : Bool) => s_cons (w_put (o_pickT rfl rfl (s_cons (w_put (o_mov rfl (s_nil (k_seq (c_ret (k_topR (r_one rfl (r_nil (fun h => ⟨((v_58 : Bool), ()), rfl, h⟩))))))))))))))) (s_cons (w_put (o_pickF rfl rfl (s_cons (w_put (o_mov rfl (s_nil (k_seq (c_ret (k_topR (r_one rfl (r_nil (fun h => ⟨((false : Bool), ()), rfl, h⟩))))))))))))))))))))))))))))) (s_cons (w_gputN rfl (s_cons (w_gputN rfl (s_cons (w_put (o_pickF rfl rfl (s_cons (w_put (o_mov rfl (s_cons (w_gputN rfl (s_cons (w_put (o_pickF rfl rfl (s_cons (w_put (o_mov rfl (s_nil (k_seq (c_ret (k_topR (r_one rfl (r_nil (fun h => ⟨((false : Bool), ()), rfl, h⟩))))))))))))))))))))))))))))))))))))))))) (s_cons (w_gputN rfl (s_cons (w_gputN rfl (s_cons (w_put (o_pickF rfl rfl (s_cons (w_put (o_mov rfl (s_cons (w_gputN rfl (s_cons (w_gputN rfl (s_cons (w_gputN rfl (s_cons (w_put (o_pickF rfl rfl (s_cons (w_put (o_mov rfl (s_cons (w_gputN rfl (s_cons (w_put (o_pickF rfl rfl (s_cons (w_put (o_mov rfl (s_nil (k_seq (c_ret (k_topR (r_one rfl (r_nil (fun h => ⟨((false : Bool), ()), rfl, h⟩)))))))))))))))))))))))))))))))))))))))))))))))))))) (s_cons (w_gputN rfl (s_cons (w_gputN rfl (s_cons (w_put (o_pickF rfl rfl (s_cons (w_put (o_mov rfl (s_cons (w_gputN rfl (s_cons (w_gputN rfl (s_cons (w_gputN rfl (s_cons (w_put (o_pickF rfl rfl (s_cons (w_put (o_mov rfl (s_cons (w_gputN rfl (s_cons (w_gputN rfl (s_cons (w_gputN rfl (s_cons (w_put (o_pickF rfl rfl (s_cons (w_put (o_mov rfl (s_cons (w_gputN rfl (s_cons (w_put (o_pickF rfl rfl (s_cons (w_put (o_mov rfl (s_nil (k_seq (c_ret (k_topR (r_one rfl (r_nil (fun h => ⟨((false : Bool), ()), rfl, h⟩)))))))))))))))))))))))))))))))))))))))))))))))))))))))))))))))))))))))))))))))))))))))))))))))))))))))))))))))))))))))))))))))))))))))))))))))))))))))))))))))))))))))))))))))))))))))))))))))))))))))))))))
theorem fetterlocklaw6_BoolApplyMatchesSpec.slimOk : slimOk [] (Try.f5.body.getD .skip) = true := by kernel_rfl
theorem fetterlocklaw6_BoolApplyMatchesSpec.resC : resC Try.prog aggs Try.f5.ntmps (slim [] (Try.f5.body.getD .skip)) = some fetterlocklaw6_BoolApplyMatchesSpec.c := by kernel_rfl
theorem fetterlocklaw6_BoolApplyMatchesSpec.resR : resR Try.prog Try.f5.results.toList = some [.tm 6] := by kernel_rfl
theorem fetterlocklaw6_BoolApplyMatchesSpec.bodyEq : Try.f5.body = some (Try.f5.body.getD .skip) := by kernel_rfl
theorem fetterlocklaw6_BoolApplyMatchesSpec.run {a0 : Int} {a1_0 : AC} {a1_1 : Int} {a2_0 : AC} {a2_1 : Int} {H : AHeap} {Q : AHeap → Bool → Prop} (h : fetterlocklaw6_BoolApplyMatchesSpec.W a0 a1_0 a1_1 a2_0 a2_1 H Q) : Fn.fetterlocklaw6_BoolApplyMatchesSpec a0 a1_0 a1_1 a2_0 a2_1 H Q := by
  unfold Fn.fetterlocklaw6_BoolApplyMatchesSpec RunT
  exact run_of aggs_ok [] Try.func5 fetterlocklaw6_BoolApplyMatchesSpec.bodyEq fetterlocklaw6_BoolApplyMatchesSpec.slimOk fetterlocklaw6_BoolApplyMatchesSpec.resC fetterlocklaw6_BoolApplyMatchesSpec.resR (Nat.le_of_ble_eq_true (by kernel_rfl)) (fetterlocklaw6_BoolApplyMatchesSpec.ok Q h)
end Go.Proofs.Ytanaaabejeeakaa
end
section
/- The diagram of a small formula; the law of Build. -/
namespace Go.Proofs.Ytanaaabejeeakaa
open Go.AI Go.AI.DT

/-- The written form of a tree's nodes. -/
abbrev rowsOf (x : DT) : List NRow := (ser x []).map (row (ser x []))

def smallF : Fm := .mk 4 0 [.mk 1 0 [], .mk 1 2 []]
def smallT : DT := nd 0 (leaf false) (nd 2 (leaf false) (leaf true))
theorem smallT_ro : smallT.RO := ⟨by omega, by simp, by simp [top], by simp [top], trivial, by omega, by simp, by simp [top], by simp [top], trivial, trivial⟩
theorem small_eval (ρ : Nat → Bool) : smallT.eval ρ = smallF.val ρ := by
  simp only [smallT, smallF, eval, Fm.val, Fm.vals]
  cases h0 : ρ 0 <;> cases h2 : ρ 2 <;> simp [h0, h2]
theorem small_fault : boolFaultOf smallF = 0 := by
  simp [boolFaultOf, smallF, Fm.size, Fm.sizes, Fm.fault, Fm.faults, Fm.want, Fm.most]
theorem small_rows : rowsOf smallT = [(2, -1, -2), (0, -1, 0)] ∧ ref (ser smallT []) smallT = 1 ∧ cnt 3 0 smallT = 2 := by
  refine ⟨?_, ?_, ?_⟩ <;> decide

theorem BRes.tree {H0 H : AHeap} {f : Fm} {ns : AC} {root err : Int} {t : DT} (h : BRes H0 H f ns root err) (h0 : boolFaultOf f = 0) (hr : t.RO) (he : ∀ ρ, t.eval ρ = f.val ρ) : DRes H t ns root err := by
  rcases h with ⟨h1, _⟩ | ⟨_, x, hx, hev, hd⟩
  · exact absurd h0 h1
  · have : x = t := canon' hx hr fun ρ => (hev ρ).trans (he ρ).symm
    subst this
    exact hd.res

theorem built_c {H : AHeap} : Fn.fetterlocklaw6_built H fun H' q => q = true ∧ Kp H H' := by
  refine fetterlocklaw6_built.run ?_
  unfold fetterlocklaw6_built.W
  refine NewSto.own rfl fun b1 H1 hb1 hs1 o1 k1 => NewSto.own rfl fun b2 H2 hb2 hs2 o2 k2 => ?_
  refine Ld.o3 (o1.kp k2) (1 : Int) (0 : Int) (.sl none 0 0 (some 0)) rfl (Ld.o3 o2 (1 : Int) (2 : Int) (.sl none 0 0 (some 0)) rfl ?_)
  refine NewS.own fun b3 H3 hb3 hs3 o3 k3 => ?_
  have kk := (k1.trans k2).trans k3
  have hf : FmB H3.size H3 4 0 (.sl (some (b3, 0)) 3 2 (some 2)) smallF := by
    have leafF : ∀ v : Int, FmB H3.size H3 1 v (.sl none 0 0 (some 0)) (.mk 1 v []) := fun v =>
      .mk [] rfl (SlR.nil _ _) (fun b o z m cap e => by cases e) fun i r k h => by simp at h
    refine .mk [(1, 0, .sl none 0 0 (some 0)), (1, 2, .sl none 0 0 (some 0))] rfl ?_ (fun b o z m cap e => ?_) ?_
    · refine ⟨some (b3, 0), 3, some 2, rfl, fun i r hr => ⟨rfl, b3, 0, rfl, ?_⟩⟩
      match i with
      | 0 => simp at hr; subst hr; exact o3.load (o := 0) (n := 3) (by simp)
      | 1 => simp at hr; subst hr; exact o3.load (o := 3) (n := 3) (by simp)
      | i + 2 => simp at hr
    · cases e; have := o3.lt; omega
    · intro i r k hr hk
      match i with
      | 0 => simp at hr hk; subst hr hk; exact leafF 0
      | 1 => simp at hr hk; subst hr hk; exact leafF 2
      | i + 2 => simp at hr
  refine RunT.imp ?_ (Build_c (f := smallF) (by simp [smallF, Fm.size, Fm.sizes]) hf)
  rintro H4 ns root err ⟨hres, k4⟩
  have hd := hres.tree small_fault smallT_ro small_eval
  obtain ⟨r1, r2, r3⟩ := small_rows
  have hl : (ser smallT []).length = 2 := by decide
  rcases hd with ⟨hbig, _⟩ | ⟨_, rfl, rfl, hsl⟩
  · omega
  have hsl' : SlR H4 ns 3 (nodeRows [(2, -1, -2), (0, -1, 0)]) := by rw [← r1]; exact hsl
  refine NewSto.own rfl fun b5 H5 hb5 hs5 o5 k5 => CondB.neg rfl (FA.mk (Ld.oi o5 rfl ?_))
  have kk5 := (kk.trans k4).trans k5
  refine CondB.neg (by rw [r2]; rfl) (FA.mk (Ld.oc o5 rfl (LenS.of (hsl'.kp k5) ?_)))
  unfold fetterlocklaw6_built.p11
  refine CondB.neg rfl (Ld.o2 o5 ns (ref (ser smallT []) smallT) rfl ?_)
  refine RunT.imp ?_ (Count_c (n := 3) smallT_ro (hsl.kp k5) (by omega) (by omega) ⟨by omega, trivial, by omega, trivial, trivial⟩)
  rintro H6 q e ⟨rfl, rfl, k6⟩
  rw [r3]
  have hsl6 := (hsl'.kp k5).kp k6
  refine FA.mk (Ld.oc (o5.kp k6) rfl (IA.of hsl6 (by omega) (r := nodeCells (2, -1, -2)) rfl fun b o hld => Ld.a3 hld (2 : Int) (-1 : Int) (-2 : Int) rfl rfl (CondB.pos rfl ?_)))
  refine FA.mk (Ld.oc (o5.kp k6) rfl (IA.of hsl6 (by omega) (r := nodeCells (0, -1, 0)) rfl fun b o hld => Ld.a3 hld (0 : Int) (-1 : Int) (0 : Int) rfl rfl (CondB.pos rfl (CondB.pos rfl ⟨rfl, kk5.trans k6⟩))))

theorem entry_bit (ρ : Nat → Bool) : ∀ (k j : Nat), j < k → (entry ρ k).testBit j = ρ (15 - j)
  | k + 1, j, hj => by
    have hlt := entry_lt ρ k
    simp only [entry]
    by_cases hjk : j = k
    · subst hjk
      cases ρ (15 - j) with
      | true => simp only [if_true]; rw [Nat.testBit_two_pow_add_eq, Nat.testBit_lt_two_pow hlt]; rfl
      | false => simp only [Bool.false_eq_true, if_false, Nat.zero_add]; exact Nat.testBit_lt_two_pow hlt
    · have ih := entry_bit ρ k j (by omega)
      cases ρ (15 - k) with
      | true => simp only [if_true]; rw [Nat.testBit_two_pow_add_gt (by omega)]; exact ih
      | false => simp only [Bool.false_eq_true, if_false, Nat.zero_add]; exact ih

theorem _root_.Go.AI.FmB.wide {n n' : Nat} {H : AHeap} (hn : n ≤ n') {op var : Int} {s : AC} {f : Fm} (h : FmB n H op var s f) : FmB n' H op var s f := by
  induction h with
  | mk rows hl hs hb _ ih => exact .mk rows hl hs (fun b o z m cap e => Nat.lt_of_lt_of_le (hb b o z m cap e) hn) ih

/-- The table of a function. -/
def tabOf (g : (Nat → Bool) → Bool) : List Bool := (List.range 65536).map fun i => g (rho i)
theorem tabOf_len (g : (Nat → Bool) → Bool) : (tabOf g).length = 2 ^ 16 := by rw [tabOf, List.length_map, List.length_range]
theorem tabOf_get (g : (Nat → Bool) → Bool) (i : Nat) (hi : i < 65536) : (tabOf g)[i]? = some (g (rho i)) := by
  unfold tabOf
  rw [List.getElem?_map, List.getElem?_range hi]
  rfl
/-- The function of a table. -/
theorem tab_val {g : (Nat → Bool) → Bool} (hg : ∀ ρ ρ' : Nat → Bool, (∀ v, v < 16 → ρ v = ρ' v) → g ρ = g ρ') (ρ : Nat → Bool) : (tabOf g)[entry ρ 16]?.getD false = g ρ := by
  rw [tabOf_get g _ (entry_lt ρ 16), Option.getD_some]
  refine hg _ _ fun v hv => ?_
  unfold rho
  rw [entry_bit ρ 16 (15 - v) (by omega)]
  congr 1
  omega
theorem tree_of {k : Nat} {t : List Bool} (hk : k ≤ 16) (ht : t.length = 2 ^ k) {g : (Nat → Bool) → Bool} (hg : ∀ ρ, t[entry ρ k]?.getD false = g ρ) : (tree k t).RO ∧ ∀ ρ, (tree k t).eval ρ = g ρ := by
  have hok := tree_ok k t hk ht
  exact ⟨hok.1, fun ρ => (hok.2.2 ρ).trans (hg ρ)⟩
theorem tabOf_tree {g : (Nat → Bool) → Bool} (hg : ∀ ρ ρ' : Nat → Bool, (∀ v, v < 16 → ρ v = ρ' v) → g ρ = g ρ') : (tree 16 (tabOf g)).RO ∧ ∀ ρ, (tree 16 (tabOf g)).eval ρ = g ρ :=
  tree_of (Nat.le_refl _) (tabOf_len g) (tab_val hg)

theorem DRes.same {H : AHeap} {x : DT} {ns ns' : AC} {r r' e e' : Int} (h : DRes H x ns r e) (h' : DRes H x ns' r' e') : e = e' ∧ r = r' ∧ ∃ l : List NRow, l.length ≤ 2000 ∧ SlR H ns 3 (nodeRows l) ∧ SlR H ns' 3 (nodeRows l) := by
  rcases h with ⟨a, rfl, rfl, d⟩ | ⟨a, rfl, rfl, d⟩ <;> rcases h' with ⟨a', rfl, rfl, d'⟩ | ⟨a', rfl, rfl, d'⟩
  · exact ⟨rfl, rfl, [], by simp, d, d'⟩
  · omega
  · omega
  · exact ⟨rfl, rfl, _, by rw [List.length_map]; exact a, d, d'⟩

end Go.Proofs.Ytanaaabejeeakaa
end
section
/- From what came in to formulas and diagrams asx they lie in memory. -/
namespace Go.Proofs.Ytanaaabejeeakaa
open Go.AI

theorem good_int {D : Type} {P : Program} {H : AHeap} {n : Nat} {t : TypeId} {k : IntKind} {cs : List AC} {d : DataW D} (hu : P.underlying t = some (.int k)) (h : AI.Good P H n t cs d) : ∃ i, cs = [.int k i] ∧ d = .lit (.int k i) ∧ (Lit.int k i).wf = true := by
  cases n with
  | zero => exact h.elim
  | succ n => simp only [AI.Good, goodStep, hu] at h; exact h
theorem good_struct {D : Type} {P : Program} {H : AHeap} {n : Nat} {t : TypeId} {fs : Array Field} {cs : List AC} {d : DataW D} (hu : P.underlying t = some (.struct fs)) (h : AI.Good P H n t cs d) : ∃ m ds, n = m + 1 ∧ d = .agg ds ∧ goodF P (AI.Good P H m) fs.toList cs ds := by
  cases n with
  | zero => exact h.elim
  | succ n => simp only [AI.Good, goodStep, hu] at h; obtain ⟨ds, h1, h2⟩ := h; exact ⟨n, ds, rfl, h1, h2⟩
theorem good_slice {D : Type} {P : Program} {H : AHeap} {n : Nat} {t e : TypeId} {cs : List AC} {d : DataW D} (hu : P.underlying t = some (.slice e)) (h : AI.Good P H n t cs d) :
    (cs = [.sl none 0 0 (some 0)] ∧ d = .nil) ∨ ∃ m b ds rest cells, n = m + 1 ∧ cs = [.sl (some (b, 0)) (P.cellsOf e) ds.length none] ∧ d = .slice ds rest ∧ H.get b = some (.row e b 0 true (cells.map some)) ∧
        goodL (AI.Good P H m) e (P.cellsOf e) cells ds ∧ ds.length ≤ maxLen := by
  cases n with
  | zero => exact h.elim
  | succ n =>
    simp only [AI.Good, goodStep, hu] at h
    rcases h with h | ⟨b, ds, rest, cells, h1, h2, h3, h4, h5, _⟩
    · exact .inl h
    · exact .inr ⟨n, b, ds, rest, cells, rfl, h1, h2, h3, h4, h5⟩
theorem goodF_cons {D : Type} {P : Program} {good : TypeId → List AC → DataW D → Prop} {f : Field} {fs : List Field} {cs : List AC} {ds : List (DataW D)} (h : goodF P good (f :: fs) cs ds) :
    ∃ d ds' a b, ds = d :: ds' ∧ cs = a ++ b ∧ good f.type a d ∧ goodF P good fs b ds' := by
  cases ds with
  | nil => exact h.elim
  | cons d ds' => exact ⟨d, ds', cs.take (P.cellsOf f.type), cs.drop (P.cellsOf f.type), rfl, (List.take_append_drop ..).symm, h.1, h.2⟩
theorem goodF_nil {D : Type} {P : Program} {good : TypeId → List AC → DataW D → Prop} {cs : List AC} {ds : List (DataW D)} (h : goodF P good [] cs ds) : ds = [] ∧ cs = [] := by
  cases ds with
  | nil => exact ⟨rfl, h⟩
  | cons d ds' => exact h.elim

theorem cells77 : Try.prog.cellsOf 77 = 3 := by decide +kernel

end Go.Proofs.Ytanaaabejeeakaa
end
section
/- The rows' last steps, shared. -/
namespace Go.Proofs.Ytanaaabejeeakaa
open Go.ChangeShapes Go.WideShapes Go.ChangeAt Go.RowKit
set_option linter.unusedVariables false

section
variable {H : Type} {enc : TypeId × Value → H} {P : Program}
theorem post_of_below {f : Func} {s : ChangeSpec} {apart fresh handsOn again : Bool} {W W' : World} {args : Array Value} {v : Value} {ds gs : List (DataW H)} {before pa pv : List MemPlace}
    (hW : DataW.Whole enc P f.params.toList s.vars apart W args.toList ds gs before)
    (hres : ∀ (b : Nat) (sp : Nat → Bool) (hd : Bool), DataW.TrodAll enc P W' b sp hd f.resultTypes.toList (v.resultList f.resultTypes.size) (s.fn H (ds ++ gs)).results [])
    (hargs : ∀ sp : Nat → Bool, (∀ p ∈ before, sp p.block = true) → DataW.TrodAll enc P W' 0 sp true f.params.toList args.toList (s.fn H (ds ++ gs)).args pa)
    (hvars : ∀ sp : Nat → Bool, (∀ p ∈ before, sp p.block = true) → DataW.TrodVars enc P W' sp s.vars (s.fn H (ds ++ gs)).vars pv)
    (hps : before = pa ++ pv) (hb : Below W.heap.size W W')
    (hok : ∀ (j : Nat) (t : TypeId) (r : Value), f.resultTypes[j]? = some t → (v.resultList f.resultTypes.size)[j]? = some r → Value.okWide P W' .any 0 t r) :
    s.post enc P f apart fresh handsOn again W args v W' := by
  have hlt : ∀ p ∈ before, p.block < W.heap.size := fun p hp => hW.lt p hp
  have hold : ∀ p ∈ before, (fun b => decide (b < W.heap.size)) p.block = true := fun p hp => by simpa using hlt p hp
  refine ⟨ds, gs, before, [], pa, pv, hW, hres _ _ _, hargs _ hold, hvars _ hold, World.keptBut_mono (fun p hp => ⟨hp, ?_⟩) (hb.frame (· ∈ before)), fun _ => ?_⟩
  · rw [hps, List.mem_append] at hp
    exact Or.inr hp
  · obtain ⟨_, _, _, _, _, hz, hn⟩ := hW
    refine ⟨hok, _, _, ([] ++ pa) ++ pv, ⟨[] ++ pa, pv, trodAll_append (hargs _ (fun _ _ => rfl)) (hres _ _ _), hvars _ (fun _ _ => rfl), rfl, ?_, ?_⟩, ?_⟩
    · intro b off hp
      have hin : MemPlace.cell b off ∈ before := by rw [hps]; simpa using hp
      rw [hb.frozen (hlt _ hin)]
      exact hz b off hin
    · intro ha
      have := hn ha
      rw [hps] at this
      simpa using this
    · intro p hp _
      rw [hps]
      simpa using hp
end

theorem own : ownKnob Try.prog.godebug = none := by kernel_rfl
theorem names_ok : AI.NamesOk Try.prog := by
  have h : Try.prog.funcs.toList.all (fun fn => !(fn.name == "runtime.NumGoroutine")) = true := by decide +kernel
  intro f fn hf
  have hm : fn ∈ Try.prog.funcs.toList := by
    rw [Array.mem_toList_iff]
    exact Array.mem_of_getElem? hf
  have := List.all_eq_true.1 h fn hm
  simpa using this
theorem mixed : Try.prog.follows .mixedOrders = true := by kernel_rfl
theorem laid_out : laidOutB Try.prog = true := by kernel_rfl
def simpleTs : List TypeId := [24, 22, 3, 27, 25, 77]
theorem simple_ok : ∀ t ∈ simpleTs, AI.simpleT Try.prog simpleTs t = true := by
  have h : simpleTs.all (AI.simpleT Try.prog simpleTs) = true := by decide +kernel
  exact List.all_eq_true.1 h
end Go.Proofs.Ytanaaabejeeakaa
namespace Go.Proofs.Ytanaaabejeeakaa
open Go.AI
theorem gargs_cons {D : Type} {P : Program} {H : AHeap} {t : TypeId} {ts : List TypeId} {avs : List AV} {d : DataW D} {ds : List (DataW D)} (h : GoodArgs P H (t :: ts) avs (d :: ds)) :
    ∃ a rest n cs, avs = a :: rest ∧ AI.Good P H n t cs d ∧ a = avOf P t cs ∧ GoodArgs P H ts rest ds := by
  cases avs with
  | nil => exact h.elim
  | cons a rest =>
    obtain ⟨⟨n, cs, h1, h2⟩, h3⟩ := h
    exact ⟨a, rest, n, cs, rfl, h1, h2, h3⟩
theorem gargs_nil {D : Type} {P : Program} {H : AHeap} {avs : List AV} (h : GoodArgs (D := D) P H [] avs []) : avs = [] := by
  cases avs with
  | nil => rfl
  | cons a rest => exact h.elim

/-- Rows of nodes asx they came in. -/
theorem dg_list {D : Type} {H : AHeap} {n : Nat} : ∀ (ds : List (DataW D)) (cells : List AC), goodL (AI.Good Try.prog H n) 77 3 cells ds → ∃ l : List NRow, l.length = ds.length ∧ cells = (nodeRows l).flatten
  | [], cells, h => ⟨[], rfl, h⟩
  | d :: ds, cells, h => by
    obtain ⟨h1, h2⟩ := h
    obtain ⟨m, ds', rfl, rfl, hF⟩ := good_struct Try.underlying77 h1
    obtain ⟨d1, ds1, a1, b1, rfl, e1, g1, hF⟩ := goodF_cons hF
    obtain ⟨d2, ds2, a2, b2, rfl, rfl, g2, hF⟩ := goodF_cons hF
    obtain ⟨d3, ds3, a3, b3, rfl, rfl, g3, hF⟩ := goodF_cons hF
    obtain ⟨rfl, rfl⟩ := goodF_nil hF
    obtain ⟨x, rfl, _⟩ := good_int Try.underlying3 g1
    obtain ⟨y, rfl, _⟩ := good_int Try.underlying3 g2
    obtain ⟨z, rfl, _⟩ := good_int Try.underlying3 g3
    obtain ⟨l, e2, e3⟩ := dg_list ds _ h2
    refine ⟨(x, y, z) :: l, by simp [e2], ?_⟩
    show cells = [.int .i64 x, .int .i64 y, .int .i64 z] ++ (nodeRows l).flatten
    rw [← e3]
    have : cells.take 3 = [.int .i64 x, .int .i64 y, .int .i64 z] := by rw [e1]; rfl
    rw [← this, List.take_append_drop]
theorem good_dg {D : Type} {H : AHeap} (n : Nat) (cs : List AC) (d : DataW D) (h : AI.Good Try.prog H n 27 cs d) : ∃ s r l, cs = [s, .int .i64 r] ∧ SlR H s 3 (nodeRows l) := by
  obtain ⟨m, ds, rfl, rfl, hF⟩ := good_struct Try.underlying27 h
  obtain ⟨d1, ds1, a1, b1, rfl, rfl, g1, hF⟩ := goodF_cons hF
  obtain ⟨d2, ds2, a2, b2, rfl, rfl, g2, hF⟩ := goodF_cons hF
  obtain ⟨rfl, rfl⟩ := goodF_nil hF
  obtain ⟨r, rfl, _⟩ := good_int Try.underlying3 g2
  rcases good_slice Try.underlying25 g1 with ⟨rfl, rfl⟩ | ⟨k, b, ds, rest, cells, rfl, rfl, rfl, hg, hl, _⟩
  · exact ⟨_, r, [], rfl, SlR.nil _ _⟩
  · rw [cells77] at hl ⊢
    obtain ⟨l, e1, rfl⟩ := dg_list ds cells hl
    refine ⟨_, r, l, rfl, some (b, 0), 3, none, by rw [nodeRows_len, e1], fun i r hr => ⟨rfl, b, 0, rfl, ?_⟩⟩
    have hlt := (List.getElem?_eq_some_iff.1 hr).1
    have hall : ∀ r ∈ nodeRows l, r.length = 3 := by
      intro r hr
      obtain ⟨x, _, rfl⟩ := List.mem_map.1 hr
      rfl
    have hfl := flatten_len hall
    have hm : (i + 1) * 3 ≤ (nodeRows l).length * 3 := Nat.mul_le_mul_right _ (by omega)
    rw [Nat.zero_add, load_of hg (by omega), flatten_row hall hr]
end Go.Proofs.Ytanaaabejeeakaa
end
section
/- Printed by a program: functions and what must hold ahead of them. -/
namespace Go.Proofs.Ytanaaabejeeakaa
open Go.AI
set_option maxRecDepth 100000
set_option maxHeartbeats 2000000
set_option linter.unusedVariables false
attribute [local irreducible] Ld Sto New NewS NewM NN NZ GE0 FA IA IAP LenS Slc App Cpy Clr MkS Fnc NilQ IxS Look MSet Run CV RunT CVT LoopT Same1 Same2 wpC wpOs wpT wpO wpOp

def solve_Apply.c15 : RC := (.seq (.ops [.put 30 (.cm .lt (.tm 29) (.tm 28))]) (.seq (.cond 30 .skip (.exit 0)) (.seq (.block 1 (.seq (.ops [.put 31 (.ia 2 (.tm 27) (.tm 29)),
    .put 32 (.ld true [.ac, .int .i64] (.tm 31)),
    .put 9 (.new 27 [(.sl none 0 0 (some 0)), (.int .i64 0)]),
    .run (.st 2 (.tm 9) (.tm 32))]) (.seq (.ops [.put 33 (.ld true [.ac, .int .i64] (.tm 9)),
    .put 34 (.call 31 [(.tm 33)]),
    .put 10 (.mov (.tm 34))]) (.seq (.ops [.put 35 (.mov (.tm 10)),
    .put 36 (.cm .ne (.tm 35) (.ct (.one (.int .i64 0))))]) (.cond 36 (.seq (.ops [.put 37 (.bld [(.sl none 0 0 (some 0)), (.int .i64 0)] []),
    .put 38 (.mov (.tm 10)),
    .run (.st 2 (.tm 6) (.tm 37)),
    .put 7 (.mov (.tm 38))]) .ret) .skip))))) (.ops [.put 39 (.ar .add (.tm 29) (.ct (.one (.int .i64 1)))),
    .put 29 (.mov (.tm 39))]))))
def solve_Apply.c5 : RC := (.cond 23 (.seq (.ops [.put 24 (.bld [(.sl none 0 0 (some 0)), (.int .i64 0)] []),
    .run (.st 2 (.tm 6) (.tm 24)),
    .put 7 (.mov (.ct (.one (.int .i64 7))))]) .ret) .skip)
def solve_Apply.c : RC := (.seq (.ops [.put 4 (.box 27 (.tm 1)),
    .put 5 (.box 27 (.tm 2)),
    .put 6 (.new 27 [(.sl none 0 0 (some 0)), (.int .i64 0)]),
    .put 7 (.mov (.ct (.one (.int .i64 0))))]) (.seq (.seq (.ops [.put 14 (.mov (.tm 0)),
    .put 15 (.cm .ne (.tm 14) (.ct (.one (.int .i64 4)))),
    .put 16 (.mov (.tm 15)),
    .gput 17 16 true (.mov (.tm 0)),
    .gput 18 16 true (.cm .ne (.tm 17) (.ct (.one (.int .i64 5)))),
    .put 19 (.pick (.tm 16) (.tm 18) (.ct (.one (.bool false)))),
    .put 20 (.mov (.tm 19)),
    .gput 21 20 true (.mov (.tm 0)),
    .gput 22 20 true (.cm .ne (.tm 21) (.ct (.one (.int .i64 6)))),
    .put 23 (.pick (.tm 20) (.tm 22) (.ct (.one (.bool false))))]) solve_Apply.c5) (.seq (.seq (.ops [.put 25 (.ld true [.ac, .int .i64] (.tm 4)),
    .put 26 (.ld true [.ac, .int .i64] (.tm 5)),
    .put 27 (.blds 27 2 2 [(.sl none 0 0 (some 0)), (.int .i64 0), (.sl none 0 0 (some 0)), (.int .i64 0)] [(0, 2, (.tm 25)), (2, 2, (.tm 26))]),
    .put 28 (.lens (.tm 27)),
    .put 29 (.mov (.ct (.one (.int .i64 0))))]) (.block 0 (.loop solve_Apply.c15))) (.seq (.ops [.put 40 (.call 41 []),
    .put 11 (.mov (.tm 40))]) (.seq (.held [.put 41 (.mov (.tm 11)),
    .put 42 (.ld true [.ac, .int .i64] (.tm 4)),
    .put 43 (.call 51 [(.tm 41), (.tm 42)]),
    .put 44 (.mov (.tm 11)),
    .put 45 (.ld true [.ac, .int .i64] (.tm 5)),
    .put 46 (.call 51 [(.tm 44), (.tm 45)]),
    .put 12 (.mov (.tm 43)),
    .put 13 (.mov (.tm 46))] [(4, 2)]) (.seq (.seq (.ops [.put 47 (.mov (.tm 0))]) (.block 2 (.seq (.ops [.put 49 (.cm .eq (.tm 47) (.ct (.one (.int .i64 4)))),
    .put 48 (.mov (.tm 49))]) (.cond 48 (.seq (.ops [.put 50 (.mov (.tm 11)),
    .put 51 (.mov (.tm 11)),
    .put 52 (.mov (.tm 12)),
    .put 53 (.mov (.tm 13)),
    .put 54 (.call 52 [(.tm 51), (.tm 52), (.tm 53)]),
    .put 55 (.call 42 [(.tm 50), (.tm 54)]),
    .put 56 (.ex (.tm 55) 0),
    .put 57 (.ex (.tm 55) 1),
    .run (.st 2 (.tm 6) (.tm 56)),
    .put 7 (.mov (.tm 57))]) .ret) (.seq (.ops [.put 59 (.cm .eq (.tm 47) (.ct (.one (.int .i64 5)))),
    .put 58 (.mov (.tm 59))]) (.cond 58 (.seq (.ops [.put 60 (.mov (.tm 11)),
    .put 61 (.mov (.tm 11)),
    .put 62 (.mov (.tm 12)),
    .put 63 (.mov (.tm 13)),
    .put 64 (.call 53 [(.tm 61), (.tm 62), (.tm 63)]),
    .put 65 (.call 42 [(.tm 60), (.tm 64)]),
    .put 66 (.ex (.tm 65) 0),
    .put 67 (.ex (.tm 65) 1),
    .run (.st 2 (.tm 6) (.tm 66)),
    .put 7 (.mov (.tm 67))]) .ret) .skip)))))) (.seq (.ops [.put 68 (.mov (.tm 11)),
    .put 69 (.mov (.tm 11)),
    .put 70 (.mov (.tm 12)),
    .put 71 (.mov (.tm 13)),
    .put 72 (.call 54 [(.tm 69), (.tm 70), (.tm 71)]),
    .put 73 (.call 42 [(.tm 68), (.tm 72)]),
    .put 74 (.ex (.tm 73) 0),
    .put 75 (.ex (.tm 73) 1),
    .run (.st 2 (.tm 6) (.tm 74)),
    .put 7 (.mov (.tm 75))]) .ret)))))))
abbrev solve_Apply.KQ (Q : AHeap → AC → Int → Int → Prop) : AV → AHeap → Prop := fun v H => ∃ xs : Tup (flat [(true, [.ac, .int .i64]), (false, [.int .i64])]), v = joinR (splitP [(true, [.ac, .int .i64]), (false, [.int .i64])] (cellsOf (flat [(true, [.ac, .int .i64]), (false, [.int .i64])]) xs)) ∧ app (flat [(true, [.ac, .int .i64]), (false, [.int .i64])]) (Q H) xs
abbrev solve_Apply.K (Q : AHeap → AC → Int → Int → Prop) : Ex → Env → AHeap → Prop := kTop [.cell 6 true [.ac, .int .i64], .tm 7] (solve_Apply.KQ Q)
abbrev solve_Apply.k3 (Q : AHeap → AC → Int → Int → Prop) : Ex → Env → AHeap → Prop := kSeq (fun t H => wpC Try.prog (.seq (.seq (.ops [.put 25 (.ld true [.ac, .int .i64] (.tm 4)),
    .put 26 (.ld true [.ac, .int .i64] (.tm 5)),
    .put 27 (.blds 27 2 2 [(.sl none 0 0 (some 0)), (.int .i64 0), (.sl none 0 0 (some 0)), (.int .i64 0)] [(0, 2, (.tm 25)), (2, 2, (.tm 26))]),
    .put 28 (.lens (.tm 27)),
    .put 29 (.mov (.ct (.one (.int .i64 0))))]) (.block 0 (.loop solve_Apply.c15))) (.seq (.ops [.put 40 (.call 41 []),
    .put 11 (.mov (.tm 40))]) (.seq (.held [.put 41 (.mov (.tm 11)),
    .put 42 (.ld true [.ac, .int .i64] (.tm 4)),
    .put 43 (.call 51 [(.tm 41), (.tm 42)]),
    .put 44 (.mov (.tm 11)),
    .put 45 (.ld true [.ac, .int .i64] (.tm 5)),
    .put 46 (.call 51 [(.tm 44), (.tm 45)]),
    .put 12 (.mov (.tm 43)),
    .put 13 (.mov (.tm 46))] [(4, 2)]) (.seq (.seq (.ops [.put 47 (.mov (.tm 0))]) (.block 2 (.seq (.ops [.put 49 (.cm .eq (.tm 47) (.ct (.one (.int .i64 4)))),
    .put 48 (.mov (.tm 49))]) (.cond 48 (.seq (.ops [.put 50 (.mov (.tm 11)),
    .put 51 (.mov (.tm 11)),
    .put 52 (.mov (.tm 12)),
    .put 53 (.mov (.tm 13)),
    .put 54 (.call 52 [(.tm 51), (.tm 52), (.tm 53)]),
    .put 55 (.call 42 [(.tm 50), (.tm 54)]),
    .put 56 (.ex (.tm 55) 0),
    .put 57 (.ex (.tm 55) 1),
    .run (.st 2 (.tm 6) (.tm 56)),
    .put 7 (.mov (.tm 57))]) .ret) (.seq (.ops [.put 59 (.cm .eq (.tm 47) (.ct (.one (.int .i64 5)))),
    .put 58 (.mov (.tm 59))]) (.cond 58 (.seq (.ops [.put 60 (.mov (.tm 11)),
    .put 61 (.mov (.tm 11)),
    .put 62 (.mov (.tm 12)),
    .put 63 (.mov (.tm 13)),
    .put 64 (.call 53 [(.tm 61), (.tm 62), (.tm 63)]),
    .put 65 (.call 42 [(.tm 60), (.tm 64)]),
    .put 66 (.ex (.tm 65) 0),
    .put 67 (.ex (.tm 65) 1),
    .run (.st 2 (.tm 6) (.tm 66)),
    .put 7 (.mov (.tm 67))]) .ret) .skip)))))) (.seq (.ops [.put 68 (.mov (.tm 11)),
    .put 69 (.mov (.tm 11)),
    .put 70 (.mov (.tm 12)),
    .put 71 (.mov (.tm 13)),
    .put 72 (.call 54 [(.tm 69), (.tm 70), (.tm 71)]),
    .put 73 (.call 42 [(.tm 68), (.tm 72)]),
    .put 74 (.ex (.tm 73) 0),
    .put 75 (.ex (.tm 73) 1),
    .run (.st 2 (.tm 6) (.tm 74)),
    .put 7 (.mov (.tm 75))]) .ret))))) t H (solve_Apply.K Q)) (solve_Apply.K Q)
abbrev solve_Apply.k11 (Q : AHeap → AC → Int → Int → Prop) : Ex → Env → AHeap → Prop := kSeq (fun t H => wpC Try.prog (.seq (.ops [.put 40 (.call 41 []),
    .put 11 (.mov (.tm 40))]) (.seq (.held [.put 41 (.mov (.tm 11)),
    .put 42 (.ld true [.ac, .int .i64] (.tm 4)),
    .put 43 (.call 51 [(.tm 41), (.tm 42)]),
    .put 44 (.mov (.tm 11)),
    .put 45 (.ld true [.ac, .int .i64] (.tm 5)),
    .put 46 (.call 51 [(.tm 44), (.tm 45)]),
    .put 12 (.mov (.tm 43)),
    .put 13 (.mov (.tm 46))] [(4, 2)]) (.seq (.seq (.ops [.put 47 (.mov (.tm 0))]) (.block 2 (.seq (.ops [.put 49 (.cm .eq (.tm 47) (.ct (.one (.int .i64 4)))),
    .put 48 (.mov (.tm 49))]) (.cond 48 (.seq (.ops [.put 50 (.mov (.tm 11)),
    .put 51 (.mov (.tm 11)),
    .put 52 (.mov (.tm 12)),
    .put 53 (.mov (.tm 13)),
    .put 54 (.call 52 [(.tm 51), (.tm 52), (.tm 53)]),
    .put 55 (.call 42 [(.tm 50), (.tm 54)]),
    .put 56 (.ex (.tm 55) 0),
    .put 57 (.ex (.tm 55) 1),
    .run (.st 2 (.tm 6) (.tm 56)),
    .put 7 (.mov (.tm 57))]) .ret) (.seq (.ops [.put 59 (.cm .eq (.tm 47) (.ct (.one (.int .i64 5)))),
    .put 58 (.mov (.tm 59))]) (.cond 58 (.seq (.ops [.put 60 (.mov (.tm 11)),
    .put 61 (.mov (.tm 11)),
    .put 62 (.mov (.tm 12)),
    .put 63 (.mov (.tm 13)),
    .put 64 (.call 53 [(.tm 61), (.tm 62), (.tm 63)]),
    .put 65 (.call 42 [(.tm 60), (.tm 64)]),
    .put 66 (.ex (.tm 65) 0),
    .put 67 (.ex (.tm 65) 1),
    .run (.st 2 (.tm 6) (.tm 66)),
    .put 7 (.mov (.tm 67))]) .ret) .skip)))))) (.seq (.ops [.put 68 (.mov (.tm 11)),
    .put 69 (.mov (.tm 11)),
    .put 70 (.mov (.tm 12)),
    .put 71 (.mov (.tm 13)),
    .put 72 (.call 54 [(.tm 69), (.tm 70), (.tm 71)]),
    .put 73 (.call 42 [(.tm 68), (.tm 72)]),
    .put 74 (.ex (.tm 73) 0),
    .put 75 (.ex (.tm 73) 1),
    .run (.st 2 (.tm 6) (.tm 74)),
    .put 7 (.mov (.tm 75))]) .ret)))) t H (solve_Apply.K Q)) (solve_Apply.K Q)
def solve_Apply.R14 (s : Tup [.int .i64, .ac, .ac, .ac, .ac, .int .i64, .int .i64]) (t : Env) : Prop := t 0 = (.one (.int .i64 (s.1))) ∧ t 4 = (.one (s.2.1)) ∧ t 5 = (.one (s.2.2.1)) ∧ t 6 = (.one (s.2.2.2.1)) ∧ t 27 = (.one (s.2.2.2.2.1)) ∧ t 28 = (.one (.int .i64 (s.2.2.2.2.2.1))) ∧ t 29 = (.one (.int .i64 (s.2.2.2.2.2.2.1))) ∧ True
def solve_Apply.b14 (Q : AHeap → AC → Int → Int → Prop) (Y14 : Tup [.int .i64, .ac, .ac, .ac, .ac, .int .i64, .int .i64] → AHeap → Prop) (x0 : Int) (x4 : AC) (x5 : AC) (x6 : AC) (x27 : AC) (x28 : Int) (x29 : Int) (H : AHeap) : Prop :=
  CondB (decide (x29 < x28))
    (IA 2 x27 x29 fun q_1 =>
    Ld [.ac, .int .i64] H q_1 fun (v_2 : AC) (v_3 : Int) =>
    New 27 [(.sl none 0 0 (some 0)), (.int .i64 0)] H fun p_4 H_5 =>
    Sto H_5 p_4 [v_2, (.int .i64 v_3)] fun H_6 =>
    Ld [.ac, .int .i64] H_6 p_4 fun (v_7 : AC) (v_8 : Int) =>
    Fn.solve_CheckDiagram v_7 v_8 H_6 fun H_9 (v_10 : Int) =>
    CondB (v_10 != 0)
      (Sto H_9 x6 [(.sl none 0 0 (some 0)), (.int .i64 0)] fun H_11 =>
      Ld [.ac, .int .i64] H_11 x6 fun (r0_12 : AC) (r1_13 : Int) =>
      Q H_11 r0_12 r1_13 v_10)
      (Y14 ((x0 : Int), x4, x5, x6, x27, (x28 : Int), ((IntKind.wrap .i64 (x29 + 1)) : Int), ()) H_9))
    (Fn.solve_newManager  H fun H_14 (v_15 : AC) =>
    Ld [.ac, .int .i64] H_14 x4 fun (v_16 : AC) (v_17 : Int) =>
    Fn.solve_manager_add v_15 v_16 v_17 H_14 fun H_18 (v_19 : Int) =>
    Ld [.ac, .int .i64] H_18 x5 fun (v_20 : AC) (v_21 : Int) =>
    Fn.solve_manager_add v_15 v_20 v_21 H_18 fun H_22 (v_23 : Int) =>
    Same2 H_18 H_14 x5 2 ∧
    CondB (x0 == 4)
      (Fn.solve_manager_and v_15 v_19 v_23 H_22 fun H_24 (v_25 : Int) =>
      Fn.solve_manager_result v_15 v_25 H_24 fun H_26 (v_27 : AC) (v_28 : Int) (v_29 : Int) =>
      Sto H_26 x6 [v_27, (.int .i64 v_28)] fun H_30 =>
      Ld [.ac, .int .i64] H_30 x6 fun (r0_31 : AC) (r1_32 : Int) =>
      Q H_30 r0_31 r1_32 v_29)
      (CondB (x0 == 5)
        (Fn.solve_manager_or v_15 v_19 v_23 H_22 fun H_33 (v_34 : Int) =>
        Fn.solve_manager_result v_15 v_34 H_33 fun H_35 (v_36 : AC) (v_37 : Int) (v_38 : Int) =>
        Sto H_35 x6 [v_36, (.int .i64 v_37)] fun H_39 =>
        Ld [.ac, .int .i64] H_39 x6 fun (r0_40 : AC) (r1_41 : Int) =>
        Q H_39 r0_40 r1_41 v_38)
        (Fn.solve_manager_xor v_15 v_19 v_23 H_22 fun H_42 (v_43 : Int) =>
        Fn.solve_manager_result v_15 v_43 H_42 fun H_44 (v_45 : AC) (v_46 : Int) (v_47 : Int) =>
        Sto H_44 x6 [v_45, (.int .i64 v_46)] fun H_48 =>
        Ld [.ac, .int .i64] H_48 x6 fun (r0_49 : AC) (r1_50 : Int) =>
        Q H_48 r0_49 r1_50 v_47)))
def solve_Apply.l14 (Q : AHeap → AC → Int → Int → Prop) (x0 : Int) (x4 : AC) (x5 : AC) (x6 : AC) (x27 : AC) (x28 : Int) (x29 : Int) (H : AHeap) : Prop := LoopT (Tup [.int .i64, .ac, .ac, .ac, .ac, .int .i64, .int .i64]) (fun Y s H => solve_Apply.b14 Q Y (s.1) (s.2.1) (s.2.2.1) (s.2.2.2.1) (s.2.2.2.2.1) (s.2.2.2.2.2.1) (s.2.2.2.2.2.2.1) H) (x0, x4, x5, x6, x27, x28, x29, ()) H
def solve_Apply.p5 (Q : AHeap → AC → Int → Int → Prop) (x0 : Int) (x4 : AC) (x5 : AC) (x6 : AC) (x23 : Bool) (H : AHeap) : Prop :=
  CondB x23
    (Sto H x6 [(.sl none 0 0 (some 0)), (.int .i64 0)] fun H_1 =>
    Ld [.ac, .int .i64] H_1 x6 fun (r0_2 : AC) (r1_3 : Int) =>
    Q H_1 r0_2 r1_3 7)
    (Ld [.ac, .int .i64] H x4 fun (v_4 : AC) (v_5 : Int) =>
    Ld [.ac, .int .i64] H x5 fun (v_6 : AC) (v_7 : Int) =>
    NewS 27 2 2 [v_4, (.int .i64 v_5), v_6, (.int .i64 v_7)] H fun p_8 H_9 =>
    LenS p_8 fun n_10 =>
    solve_Apply.l14 Q x0 x4 x5 x6 p_8 n_10 0 H_9)
def solve_Apply.W (a0 : Int) (a1_0 : AC) (a1_1 : Int) (a2_0 : AC) (a2_1 : Int) (H : AHeap) (Q : AHeap → AC → Int → Int → Prop) : Prop :=
  New 27 [a1_0, (.int .i64 a1_1)] H fun p_1 H_2 =>
  New 27 [a2_0, (.int .i64 a2_1)] H_2 fun p_3 H_4 =>
  New 27 [(.sl none 0 0 (some 0)), (.int .i64 0)] H_4 fun p_5 H_6 =>
  CondB (a0 != 4)
    (CondB (a0 != 5)
      (solve_Apply.p5 Q a0 p_1 p_3 p_5 (a0 != 6) H_6)
      (solve_Apply.p5 Q a0 p_1 p_3 p_5 false H_6))
    (solve_Apply.p5 Q a0 p_1 p_3 p_5 false H_6)
theorem solve_Apply.b14_ok (Q : AHeap → AC → Int → Int → Prop) (Y14 : Tup [.int .i64, .ac, .ac, .ac, .ac, .int .i64, .int .i64] → AHeap → Prop) (X14 : Env → AHeap → Prop) (hX14 : ∀ s t H, solve_Apply.R14 s t → Y14 s H → X14 t H) {x0 : Int} {x4 : AC} {x5 : AC} {x6 : AC} {x27 : AC} {x28 : Int} {x29 : Int} {H : AHeap} (j : Env) : solve_Apply.b14 Q Y14 x0 x4 x5 x6 x27 x28 x29 H → wpC Try.prog solve_Apply.c15 (upd (upd (upd (upd (upd (upd (upd j 0 (.one (.int .i64 x0))) 4 (.one x4)) 5 (.one x5)) 6 (.one x6)) 27 (.one x27)) 28 (.one (.int .i64 x28))) 29 (.one (.int .i64 x29))) H (kSeq X14 (kBlk 0 (solve_Apply.k11 Q))) := c_seq (c_ops (s_cons (w_put (o_lt rfl rfl (s_nil (k_seq (c_seq (c_if rfl (c_skip (k_seq (c_seq (c_blk (c_seq (c_ops (s_cons (w_put (o_ia rfl rfl (fun q_1 => s_cons (w_put (o_ld2 rfl (fun (v_2 : AC) (v_3 : Int) => s_cons (w_put (o_new (fun p_4 H_5 => s_cons (w_run (o_st rfl rfl rfl (fun H_6 => s_nil (k_seq (c_seq (c_ops (s_cons (w_put (o_ld2 rfl (fun (v_7 : AC) (v_8 : Int) => s_cons (w_put (o_call rfl (cv_1 (fun H_9 (v_10 : Int) => s_cons (w_put (o_mov rfl (s_nil (k_seq (c_seq (c_ops (s_cons (w_put (o_mov rfl (s_cons (w_put (o_ne rfl rfl (s_nil (k_seq (c_if rfl (c_seq (c_ops (s_cons (w_put (o_bld rfl (s_cons (w_put (o_mov rfl (s_cons (w_run (o_st rfl rfl rfl (fun H_11 => s_cons (w_put (o_mov rfl (s_nil (k_seq (c_ret (k_blkR (k_seqR (k_seqR (k_blkR (k_seqR (k_topR (r_cell2 rfl (fun (r0_12 : AC) (r1_13 : Int) => r_one rfl (r_nil (fun h => ⟨(r0_12, (r1_13 : Int), (v_10 : Int), ()), rfl, h⟩))))))))))))))))))))))))))) (c_skip (k_blk (k_seq (c_ops (s_cons (w_put (o_add rfl rfl (s_cons (w_put (o_mov rfl (s_nil (k_seq (hX14 _ _ _ ⟨rfl, rfl, rfl, rfl, rfl, rfl, rfl, trivial⟩)))))))))))))))))))))))))))))))))))))))))))))))))))))))))) (c_exit (k_seqE (k_seqE (k_blkH (k_seq (c_seq (c_ops (s_cons (w_put (o_call rfl (cv_1 (fun H_14 (v_15 : AC) => s_cons (w_put (o_mov rfl (s_nil (k_seq (c_seq (c_held (t_cons (w_put (o_mov rfl (t_cons (w_put (o_ld2 rfl (fun (v_16 : AC) (v_17 : Int) => t_cons (w_put (o_call rfl (cv_1 (fun H_18 (v_19 : Int) => t_cons (w_put (o_mov rfl (t_cons (w_put (o_ld2 rfl (fun (v_20 : AC) (v_21 : Int) => t_cons (w_put (o_call rfl (cv_1 (fun H_22 (v_23 : Int) => t_cons (w_put (o_mov rfl (t_cons (w_put (o_mov rfl (t_nil (p_two rfl rfl rfl rfl rfl rfl rfl rfl (p_nil (k_seq (c_seq (c_seq (c_ops (s_cons (w_put (o_mov rfl (s_nil (k_seq (c_blk (c_seq (c_ops (s_cons (w_put (o_eq rfl rfl (s_cons (w_put (o_mov rfl (s_nil (k_seq (c_if rfl (c_seq (c_ops (s_cons (w_put (o_mov rfl (s_cons (w_put (o_mov rfl (s_cons (w_put (o_mov rfl (s_cons (w_put (o_mov rfl (s_cons (w_put (o_call rfl (cv_1 (fun H_24 (v_25 : Int) => s_cons (w_put (o_call rfl (cv_a2_o1 (fun H_26 (v_27 : AC) (v_28 : Int) (v_29 : Int) => s_cons (w_put (o_ex rfl rfl rfl (s_cons (w_put (o_ex rfl rfl rfl (s_cons (w_run (o_st rfl rfl rfl (fun H_30 => s_cons (w_put (o_mov rfl (s_nil (k_seq (c_ret (k_blkR (k_seqR (k_topR (r_cell2 rfl (fun (r0_31 : AC) (r1_32 : Int) => r_one rfl (r_nil (fun h => ⟨(r0_31, (r1_32 : Int), (v_29 : Int), ()), rfl, h⟩)))))))))))))))))))))))))))))))))))))))))))) (c_seq (c_ops (s_cons (w_put (o_eq rfl rfl (s_cons (w_put (o_mov rfl (s_nil (k_seq (c_if rfl (c_seq (c_ops (s_cons (w_put (o_mov rfl (s_cons (w_put (o_mov rfl (s_cons (w_put (o_mov rfl (s_cons (w_put (o_mov rfl (s_cons (w_put (o_call rfl (cv_1 (fun H_33 (v_34 : Int) => s_cons (w_put (o_call rfl (cv_a2_o1 (fun H_35 (v_36 : AC) (v_37 : Int) (v_38 : Int) => s_cons (w_put (o_ex rfl rfl rfl (s_cons (w_put (o_ex rfl rfl rfl (s_cons (w_run (o_st rfl rfl rfl (fun H_39 => s_cons (w_put (o_mov rfl (s_nil (k_seq (c_ret (k_blkR (k_seqR (k_topR (r_cell2 rfl (fun (r0_40 : AC) (r1_41 : Int) => r_one rfl (r_nil (fun h => ⟨(r0_40, (r1_41 : Int), (v_38 : Int), ()), rfl, h⟩)))))))))))))))))))))))))))))))))))))))))))) (c_skip (k_blk (k_seq (c_seq (c_ops (s_cons (w_put (o_mov rfl (s_cons (w_put (o_mov rfl (s_cons (w_put (o_mov rfl (s_cons (w_put (o_mov rfl (s_cons (w_put (o_call rfl (cv_1 (fun H_42 (v_43 : Int) => s_cons (w_put (o_call rfl (cv_a2_o1 (fun H_44 (v_45 : AC) (v_46 : Int) (v_47 : Int) => s_cons (w_put (o_ex rfl rfl rfl (s_cons (w_put (o_ex rfl rfl rfl (s_cons (w_run (o_st rfl rfl rfl (fun H_48 => s_cons (w_put (o_mov rfl (s_nil (k_seq (c_ret (k_topR (r_cell2 rfl (fun (r0_49 : AC) (r1_50 : Int) => r_one rfl (r_nil (fun h => ⟨(r0_49, (r1_50 : Int), (v_47 : Int), ()), rfl, h⟩))))))))))))))))))))))))))))))))))))))))))))))))))))))))))))))))))))))))))))))))))))))))))))))))))))))))))))))))))))))))))))))))))))
theorem solve_Apply.l14_ok (Q : AHeap → AC → Int → Int → Prop) {x0 : Int} {x4 : AC} {x5 : AC} {x6 : AC} {x27 : AC} {x28 : Int} {x29 : Int} {H : AHeap} {t : Env} (h0 : t 0 = (.one (.int .i64 x0))) (h4 : t 4 = (.one x4)) (h5 : t 5 = (.one x5)) (h6 : t 6 = (.one x6)) (h27 : t 27 = (.one x27)) (h28 : t 28 = (.one (.int .i64 x28))) (h29 : t 29 = (.one (.int .i64 x29))) : solve_Apply.l14 Q x0 x4 x5 x6 x27 x28 x29 H → wpC Try.prog (.loop solve_Apply.c15) t H (kBlk 0 (solve_Apply.k11 Q)) :=
  m_loop solve_Apply.R14 ⟨h0, h4, h5, h6, h27, h28, h29, trivial⟩ fun X Y hX s t H hR hB => by
    have g := solve_Apply.b14_ok Q Y X hX t hB
    rw [upd_self hR.1] at g
    rw [upd_self hR.2.1] at g
    rw [upd_self hR.2.2.1] at g
    rw [upd_self hR.2.2.2.1] at g
    rw [upd_self hR.2.2.2.2.1] at g
    rw [upd_self hR.2.2.2.2.2.1] at g
    rw [upd_self hR.2.2.2.2.2.2.1] at g
    exact g
theorem solve_Apply.p5_okE (Q : AHeap → AC → Int → Int → Prop) {x0 : Int} {x4 : AC} {x5 : AC} {x6 : AC} {x23 : Bool} {H : AHeap} (j : Env) : solve_Apply.p5 Q x0 x4 x5 x6 x23 H → wpC Try.prog solve_Apply.c5 (upd (upd (upd (upd (upd j 0 (.one (.int .i64 x0))) 4 (.one x4)) 5 (.one x5)) 6 (.one x6)) 23 (.one (.bool x23))) H (solve_Apply.k3 Q) := c_if rfl (c_seq (c_ops (s_cons (w_put (o_bld rfl (s_cons (w_run (o_st rfl rfl rfl (fun H_1 => s_cons (w_put (o_mov rfl (s_nil (k_seq (c_ret (k_seqR (k_topR (r_cell2 rfl (fun (r0_2 : AC) (r1_3 : Int) => r_one rfl (r_nil (fun h => ⟨(r0_2, (r1_3 : Int), (7 : Int), ()), rfl, h⟩)))))))))))))))))))) (c_skip (k_seq (c_seq (c_seq (c_ops (s_cons (w_put (o_ld2 rfl (fun (v_4 : AC) (v_5 : Int) => s_cons (w_put (o_ld2 rfl (fun (v_6 : AC) (v_7 : Int) => s_cons (w_put (o_blds rfl (fun p_8 H_9 => s_cons (w_put (o_lens rfl (fun n_10 => s_cons (w_put (o_mov rfl (s_nil (k_seq (c_blk (solve_Apply.l14_ok Q rfl rfl rfl rfl rfl rfl rfl))))))))))))))))))))))))
theorem solve_Apply.p5_ok (Q : AHeap → AC → Int → Int → Prop) {x0 : Int} {x4 : AC} {x5 : AC} {x6 : AC} {x23 : Bool} {H : AHeap} {t : Env} (h0 : t 0 = (.one (.int .i64 x0))) (h4 : t 4 = (.one x4)) (h5 : t 5 = (.one x5)) (h6 : t 6 = (.one x6)) (h23 : t 23 = (.one (.bool x23))) (h : solve_Apply.p5 Q x0 x4 x5 x6 x23 H) : wpC Try.prog solve_Apply.c5 t H (solve_Apply.k3 Q) := by
  have g := solve_Apply.p5_okE Q t h
  rw [upd_self h0] at g
  rw [upd_self h4] at g
  rw [upd_self h5] at g
  rw [upd_self h6] at g
  rw [upd_self h23] at g
  exact g
theorem solve_Apply.ok {a0 : Int} {a1_0 : AC} {a1_1 : Int} {a2_0 : AC} {a2_1 : Int} {H : AHeap} (Q : AHeap → AC → Int → Int → Prop) : solve_Apply.W a0 a1_0 a1_1 a2_0 a2_1 H Q → wpF Try.prog solve_Apply.c [.cell 6 true [.ac, .int .i64], .tm 7] (envOf [(.one (.int .i64 a0)), (.agg [a1_0, (.int .i64 a1_1)]), (.agg [a2_0, (.int .i64 a2_1)])]) H (solve_Apply.KQ Q) := c_seq (c_ops (s_cons (w_put (o_box rfl (fun p_1 H_2 => s_cons (w_put (o_box rfl (fun p_3 H_4 => s_cons (w_put (o_new (fun p_5 H_6 => s_cons (w_put (o_mov rfl (s_nil (k_seq (c_seq (c_seq (c_ops (s_cons (w_put (o_mov rfl (s_cons (w_put (o_ne rfl rfl (s_cons (w_put (o_mov rfl (s_cons (w_gputT rfl (o_mov rfl (s_cons (w_gputY rfl (o_ne rfl rfl (s_cons (w_put (o_pickT rfl rfl (s_cons (w_put (o_mov rfl (s_cons (w_gputT rfl (o_mov rfl (s_cons (w_gputY rfl (o_ne rfl rfl (s_cons (w_put (o_pickT rfl rfl (s_nil (k_seq (solve_Apply.p5_ok Q rfl rfl rfl rfl rfl)))))))))) (s_cons (w_gputN rfl (s_cons (w_put (o_pickF rfl rfl (s_nil (k_seq (solve_Apply.p5_ok Q rfl rfl rfl rfl rfl)))))))))))))))))))) (s_cons (w_gputN rfl (s_cons (w_put (o_pickF rfl rfl (s_cons (w_put (o_mov rfl (s_cons (w_gputN rfl (s_cons (w_gputN rfl (s_cons (w_put (o_pickF rfl rfl (s_nil (k_seq (solve_Apply.p5_ok Q rfl rfl rfl rfl rfl)))))))))))))))))))))))))))))))))))))))))))))))
theorem solve_Apply.slimOk : slimOk [(11, [(4, 2)])] (Try.f20.body.getD .skip) = true := by kernel_rfl
theorem solve_Apply.resC : resC Try.prog aggs Try.f20.ntmps (slim [(11, [(4, 2)])] (Try.f20.body.getD .skip)) = some solve_Apply.c := by kernel_rfl
theorem solve_Apply.resR : resR Try.prog Try.f20.results.toList = some [.cell 6 true [.ac, .int .i64], .tm 7] := by kernel_rfl
theorem solve_Apply.bodyEq : Try.f20.body = some (Try.f20.body.getD .skip) := by kernel_rfl
theorem solve_Apply.run {a0 : Int} {a1_0 : AC} {a1_1 : Int} {a2_0 : AC} {a2_1 : Int} {H : AHeap} {Q : AHeap → AC → Int → Int → Prop} (h : solve_Apply.W a0 a1_0 a1_1 a2_0 a2_1 H Q) : Fn.solve_Apply a0 a1_0 a1_1 a2_0 a2_1 H Q := by
  unfold Fn.solve_Apply RunT
  exact run_of aggs_ok [(11, [(4, 2)])] Try.func20 solve_Apply.bodyEq solve_Apply.slimOk solve_Apply.resC solve_Apply.resR (Nat.le_of_ble_eq_true (by kernel_rfl)) (solve_Apply.ok Q h)

def fetterlockref6_Applied.c39 : RC := (.seq (.seq (.ops [.put 40 (.mov (.tm 12)),
    .put 41 (.mov (.tm 10)),
    .put 42 (.lens (.tm 41)),
    .put 43 (.cm .lt (.tm 40) (.tm 42))]) (.cond 43 .skip (.exit 0))) (.seq (.block 1 (.seq (.ops [.put 46 (.mov (.tm 0)),
    .put 47 (.cm .eq (.tm 46) (.ct (.one (.int .i64 4))))]) (.cond 47 (.ops [.put 48 (.mov (.tm 10)),
    .put 49 (.mov (.tm 12)),
    .put 50 (.mov (.tm 10)),
    .put 51 (.mov (.tm 12)),
    .put 52 (.ia 1 (.tm 50) (.tm 51)),
    .put 53 (.ld false [.bool] (.tm 52)),
    .put 54 (.mov (.tm 53)),
    .gput 55 54 true (.mov (.tm 11)),
    .gput 56 54 true (.mov (.tm 12)),
    .gput 57 54 true (.ia 1 (.tm 55) (.tm 56)),
    .gput 58 54 true (.ld false [.bool] (.tm 57)),
    .put 59 (.pick (.tm 54) (.tm 58) (.ct (.one (.bool false)))),
    .put 60 (.ia 1 (.tm 48) (.tm 49)),
    .run (.st 1 (.tm 60) (.tm 59))]) (.seq (.ops [.put 61 (.mov (.tm 0)),
    .put 62 (.cm .eq (.tm 61) (.ct (.one (.int .i64 5))))]) (.cond 62 (.ops [.put 63 (.mov (.tm 10)),
    .put 64 (.mov (.tm 12)),
    .put 65 (.mov (.tm 10)),
    .put 66 (.mov (.tm 12)),
    .put 67 (.ia 1 (.tm 65) (.tm 66)),
    .put 68 (.ld false [.bool] (.tm 67)),
    .put 69 (.mov (.tm 68)),
    .gput 70 69 false (.mov (.tm 11)),
    .gput 71 69 false (.mov (.tm 12)),
    .gput 72 69 false (.ia 1 (.tm 70) (.tm 71)),
    .gput 73 69 false (.ld false [.bool] (.tm 72)),
    .put 74 (.pick (.tm 69) (.ct (.one (.bool true))) (.tm 73)),
    .put 75 (.ia 1 (.tm 63) (.tm 64)),
    .run (.st 1 (.tm 75) (.tm 74))]) (.ops [.put 76 (.mov (.tm 10)),
    .put 77 (.mov (.tm 12)),
    .put 78 (.mov (.tm 10)),
    .put 79 (.mov (.tm 12)),
    .put 80 (.ia 1 (.tm 78) (.tm 79)),
    .put 81 (.ld false [.bool] (.tm 80)),
    .put 82 (.mov (.tm 11)),
    .put 83 (.mov (.tm 12)),
    .put 84 (.ia 1 (.tm 82) (.tm 83)),
    .put 85 (.ld false [.bool] (.tm 84)),
    .put 86 (.eqb true (.tm 81) (.tm 85)),
    .put 87 (.ia 1 (.tm 76) (.tm 77)),
    .run (.st 1 (.tm 87) (.tm 86))])))))) (.ops [.put 44 (.mov (.tm 12)),
    .put 45 (.ar .add (.tm 44) (.ct (.one (.int .i64 1)))),
    .put 12 (.mov (.tm 45))])))
def fetterlockref6_Applied.c5 : RC := (.cond 22 (.seq (.ops [.put 23 (.bld [(.sl none 0 0 (some 0)), (.int .i64 0)] []),
    .run (.st 2 (.tm 6) (.tm 23)),
    .put 7 (.mov (.ct (.one (.int .i64 7))))]) .ret) .skip)
def fetterlockref6_Applied.c : RC := (.seq (.ops [.put 4 (.box 27 (.tm 1)),
    .put 5 (.box 27 (.tm 2)),
    .put 6 (.new 27 [(.sl none 0 0 (some 0)), (.int .i64 0)]),
    .put 7 (.mov (.ct (.one (.int .i64 0))))]) (.seq (.seq (.ops [.put 13 (.mov (.tm 0)),
    .put 14 (.cm .ne (.tm 13) (.ct (.one (.int .i64 4)))),
    .put 15 (.mov (.tm 14)),
    .gput 16 15 true (.mov (.tm 0)),
    .gput 17 15 true (.cm .ne (.tm 16) (.ct (.one (.int .i64 5)))),
    .put 18 (.pick (.tm 15) (.tm 17) (.ct (.one (.bool false)))),
    .put 19 (.mov (.tm 18)),
    .gput 20 19 true (.mov (.tm 0)),
    .gput 21 19 true (.cm .ne (.tm 20) (.ct (.one (.int .i64 6)))),
    .put 22 (.pick (.tm 19) (.tm 21) (.ct (.one (.bool false))))]) fetterlockref6_Applied.c5) (.seq (.seq (.ops [.put 24 (.ld true [.ac, .int .i64] (.tm 4)),
    .put 25 (.call 29 [(.tm 24)]),
    .put 8 (.mov (.tm 25))]) (.seq (.ops [.put 26 (.mov (.tm 8)),
    .put 27 (.cm .ne (.tm 26) (.ct (.one (.int .i64 0))))]) (.cond 27 (.seq (.ops [.put 28 (.bld [(.sl none 0 0 (some 0)), (.int .i64 0)] []),
    .put 29 (.mov (.tm 8)),
    .run (.st 2 (.tm 6) (.tm 28)),
    .put 7 (.mov (.tm 29))]) .ret) .skip))) (.seq (.seq (.ops [.put 30 (.ld true [.ac, .int .i64] (.tm 5)),
    .put 31 (.call 29 [(.tm 30)]),
    .put 9 (.mov (.tm 31))]) (.seq (.ops [.put 32 (.mov (.tm 9)),
    .put 33 (.cm .ne (.tm 32) (.ct (.one (.int .i64 0))))]) (.cond 33 (.seq (.ops [.put 34 (.bld [(.sl none 0 0 (some 0)), (.int .i64 0)] []),
    .put 35 (.mov (.tm 9)),
    .run (.st 2 (.tm 6) (.tm 34)),
    .put 7 (.mov (.tm 35))]) .ret) .skip))) (.seq (.ops [.put 36 (.ld true [.ac, .int .i64] (.tm 4)),
    .put 37 (.call 55 [(.tm 36)]),
    .put 10 (.mov (.tm 37))]) (.seq (.ops [.put 38 (.ld true [.ac, .int .i64] (.tm 5)),
    .put 39 (.call 55 [(.tm 38)]),
    .put 11 (.mov (.tm 39))]) (.seq (.seq (.ops [.put 12 (.mov (.ct (.one (.int .i64 0))))]) (.block 0 (.loop fetterlockref6_Applied.c39))) (.seq (.ops [.put 88 (.mov (.tm 10)),
    .put 89 (.call 16 [(.tm 88)]),
    .put 90 (.ex (.tm 89) 0),
    .put 91 (.ex (.tm 89) 1),
    .run (.st 2 (.tm 6) (.tm 90)),
    .put 7 (.mov (.tm 91))]) .ret))))))))
abbrev fetterlockref6_Applied.KQ (Q : AHeap → AC → Int → Int → Prop) : AV → AHeap → Prop := fun v H => ∃ xs : Tup (flat [(true, [.ac, .int .i64]), (false, [.int .i64])]), v = joinR (splitP [(true, [.ac, .int .i64]), (false, [.int .i64])] (cellsOf (flat [(true, [.ac, .int .i64]), (false, [.int .i64])]) xs)) ∧ app (flat [(true, [.ac, .int .i64]), (false, [.int .i64])]) (Q H) xs
abbrev fetterlockref6_Applied.K (Q : AHeap → AC → Int → Int → Prop) : Ex → Env → AHeap → Prop := kTop [.cell 6 true [.ac, .int .i64], .tm 7] (fetterlockref6_Applied.KQ Q)
abbrev fetterlockref6_Applied.k3 (Q : AHeap → AC → Int → Int → Prop) : Ex → Env → AHeap → Prop := kSeq (fun t H => wpC Try.prog (.seq (.seq (.ops [.put 24 (.ld true [.ac, .int .i64] (.tm 4)),
    .put 25 (.call 29 [(.tm 24)]),
    .put 8 (.mov (.tm 25))]) (.seq (.ops [.put 26 (.mov (.tm 8)),
    .put 27 (.cm .ne (.tm 26) (.ct (.one (.int .i64 0))))]) (.cond 27 (.seq (.ops [.put 28 (.bld [(.sl none 0 0 (some 0)), (.int .i64 0)] []),
    .put 29 (.mov (.tm 8)),
    .run (.st 2 (.tm 6) (.tm 28)),
    .put 7 (.mov (.tm 29))]) .ret) .skip))) (.seq (.seq (.ops [.put 30 (.ld true [.ac, .int .i64] (.tm 5)),
    .put 31 (.call 29 [(.tm 30)]),
    .put 9 (.mov (.tm 31))]) (.seq (.ops [.put 32 (.mov (.tm 9)),
    .put 33 (.cm .ne (.tm 32) (.ct (.one (.int .i64 0))))]) (.cond 33 (.seq (.ops [.put 34 (.bld [(.sl none 0 0 (some 0)), (.int .i64 0)] []),
    .put 35 (.mov (.tm 9)),
    .run (.st 2 (.tm 6) (.tm 34)),
    .put 7 (.mov (.tm 35))]) .ret) .skip))) (.seq (.ops [.put 36 (.ld true [.ac, .int .i64] (.tm 4)),
    .put 37 (.call 55 [(.tm 36)]),
    .put 10 (.mov (.tm 37))]) (.seq (.ops [.put 38 (.ld true [.ac, .int .i64] (.tm 5)),
    .put 39 (.call 55 [(.tm 38)]),
    .put 11 (.mov (.tm 39))]) (.seq (.seq (.ops [.put 12 (.mov (.ct (.one (.int .i64 0))))]) (.block 0 (.loop fetterlockref6_Applied.c39))) (.seq (.ops [.put 88 (.mov (.tm 10)),
    .put 89 (.call 16 [(.tm 88)]),
    .put 90 (.ex (.tm 89) 0),
    .put 91 (.ex (.tm 89) 1),
    .run (.st 2 (.tm 6) (.tm 90)),
    .put 7 (.mov (.tm 91))]) .ret)))))) t H (fetterlockref6_Applied.K Q)) (fetterlockref6_Applied.K Q)
abbrev fetterlockref6_Applied.k35 (Q : AHeap → AC → Int → Int → Prop) : Ex → Env → AHeap → Prop := kSeq (fun t H => wpC Try.prog (.seq (.ops [.put 88 (.mov (.tm 10)),
    .put 89 (.call 16 [(.tm 88)]),
    .put 90 (.ex (.tm 89) 0),
    .put 91 (.ex (.tm 89) 1),
    .run (.st 2 (.tm 6) (.tm 90)),
    .put 7 (.mov (.tm 91))]) .ret) t H (fetterlockref6_Applied.K Q)) (fetterlockref6_Applied.K Q)
def fetterlockref6_Applied.R38 (s : Tup [.int .i64, .ac, .ac, .ac, .int .i64]) (t : Env) : Prop := t 0 = (.one (.int .i64 (s.1))) ∧ t 6 = (.one (s.2.1)) ∧ t 10 = (.one (s.2.2.1)) ∧ t 11 = (.one (s.2.2.2.1)) ∧ t 12 = (.one (.int .i64 (s.2.2.2.2.1))) ∧ True
def fetterlockref6_Applied.b38 (Q : AHeap → AC → Int → Int → Prop) (Y38 : Tup [.int .i64, .ac, .ac, .ac, .int .i64] → AHeap → Prop) (x0 : Int) (x6 : AC) (x10 : AC) (x11 : AC) (x12 : Int) (H : AHeap) : Prop :=
  LenS x10 fun n_1 =>
  CondB (decide (x12 < n_1))
    (CondB (x0 == 4)
      (IA 1 x10 x12 fun q_2 =>
      Ld [.bool] H q_2 fun (v_3 : Bool) =>
      CondB v_3
        (IA 1 x11 x12 fun q_4 =>
        Ld [.bool] H q_4 fun (v_5 : Bool) =>
        IA 1 x10 x12 fun q_6 =>
        Sto H q_6 [(.bool v_5)] fun H_7 =>
        Y38 ((x0 : Int), x6, x10, x11, ((IntKind.wrap .i64 (x12 + 1)) : Int), ()) H_7)
        (IA 1 x10 x12 fun q_8 =>
        Sto H q_8 [(.bool false)] fun H_9 =>
        Y38 ((x0 : Int), x6, x10, x11, ((IntKind.wrap .i64 (x12 + 1)) : Int), ()) H_9))
      (CondB (x0 == 5)
        (IA 1 x10 x12 fun q_10 =>
        Ld [.bool] H q_10 fun (v_11 : Bool) =>
        CondB v_11
          (IA 1 x10 x12 fun q_12 =>
          Sto H q_12 [(.bool true)] fun H_13 =>
          Y38 ((x0 : Int), x6, x10, x11, ((IntKind.wrap .i64 (x12 + 1)) : Int), ()) H_13)
          (IA 1 x11 x12 fun q_14 =>
          Ld [.bool] H q_14 fun (v_15 : Bool) =>
          IA 1 x10 x12 fun q_16 =>
          Sto H q_16 [(.bool v_15)] fun H_17 =>
          Y38 ((x0 : Int), x6, x10, x11, ((IntKind.wrap .i64 (x12 + 1)) : Int), ()) H_17))
        (IA 1 x10 x12 fun q_18 =>
        Ld [.bool] H q_18 fun (v_19 : Bool) =>
        IA 1 x11 x12 fun q_20 =>
        Ld [.bool] H q_20 fun (v_21 : Bool) =>
        IA 1 x10 x12 fun q_22 =>
        Sto H q_22 [(.bool (!(v_19 == v_21)))] fun H_23 =>
        Y38 ((x0 : Int), x6, x10, x11, ((IntKind.wrap .i64 (x12 + 1)) : Int), ()) H_23)))
    (Fn.fetterlockref6_OfTable x10 H fun H_24 (v_25 : AC) (v_26 : Int) (v_27 : Int) =>
    Sto H_24 x6 [v_25, (.int .i64 v_26)] fun H_28 =>
    Ld [.ac, .int .i64] H_28 x6 fun (r0_29 : AC) (r1_30 : Int) =>
    Q H_28 r0_29 r1_30 v_27)
def fetterlockref6_Applied.l38 (Q : AHeap → AC → Int → Int → Prop) (x0 : Int) (x6 : AC) (x10 : AC) (x11 : AC) (x12 : Int) (H : AHeap) : Prop := LoopT (Tup [.int .i64, .ac, .ac, .ac, .int .i64]) (fun Y s H => fetterlockref6_Applied.b38 Q Y (s.1) (s.2.1) (s.2.2.1) (s.2.2.2.1) (s.2.2.2.2.1) H) (x0, x6, x10, x11, x12, ()) H
def fetterlockref6_Applied.p5 (Q : AHeap → AC → Int → Int → Prop) (x0 : Int) (x4 : AC) (x5 : AC) (x6 : AC) (x22 : Bool) (H : AHeap) : Prop :=
  CondB x22
    (Sto H x6 [(.sl none 0 0 (some 0)), (.int .i64 0)] fun H_1 =>
    Ld [.ac, .int .i64] H_1 x6 fun (r0_2 : AC) (r1_3 : Int) =>
    Q H_1 r0_2 r1_3 7)
    (Ld [.ac, .int .i64] H x4 fun (v_4 : AC) (v_5 : Int) =>
    Fn.fetterlockref6_DiagramFault v_4 v_5 H fun H_6 (v_7 : Int) =>
    CondB (v_7 != 0)
      (Sto H_6 x6 [(.sl none 0 0 (some 0)), (.int .i64 0)] fun H_8 =>
      Ld [.ac, .int .i64] H_8 x6 fun (r0_9 : AC) (r1_10 : Int) =>
      Q H_8 r0_9 r1_10 v_7)
      (Ld [.ac, .int .i64] H_6 x5 fun (v_11 : AC) (v_12 : Int) =>
      Fn.fetterlockref6_DiagramFault v_11 v_12 H_6 fun H_13 (v_14 : Int) =>
      CondB (v_14 != 0)
        (Sto H_13 x6 [(.sl none 0 0 (some 0)), (.int .i64 0)] fun H_15 =>
        Ld [.ac, .int .i64] H_15 x6 fun (r0_16 : AC) (r1_17 : Int) =>
        Q H_15 r0_16 r1_17 v_14)
        (Ld [.ac, .int .i64] H_13 x4 fun (v_18 : AC) (v_19 : Int) =>
        Fn.fetterlockref6_DiagramTable v_18 v_19 H_13 fun H_20 (v_21 : AC) =>
        Ld [.ac, .int .i64] H_20 x5 fun (v_22 : AC) (v_23 : Int) =>
        Fn.fetterlockref6_DiagramTable v_22 v_23 H_20 fun H_24 (v_25 : AC) =>
        fetterlockref6_Applied.l38 Q x0 x6 v_21 v_25 0 H_24)))
def fetterlockref6_Applied.W (a0 : Int) (a1_0 : AC) (a1_1 : Int) (a2_0 : AC) (a2_1 : Int) (H : AHeap) (Q : AHeap → AC → Int → Int → Prop) : Prop :=
  New 27 [a1_0, (.int .i64 a1_1)] H fun p_1 H_2 =>
  New 27 [a2_0, (.int .i64 a2_1)] H_2 fun p_3 H_4 =>
  New 27 [(.sl none 0 0 (some 0)), (.int .i64 0)] H_4 fun p_5 H_6 =>
  CondB (a0 != 4)
    (CondB (a0 != 5)
      (fetterlockref6_Applied.p5 Q a0 p_1 p_3 p_5 (a0 != 6) H_6)
      (fetterlockref6_Applied.p5 Q a0 p_1 p_3 p_5 false H_6))
    (fetterlockref6_Applied.p5 Q a0 p_1 p_3 p_5 false H_6)
theorem fetterlockref6_Applied.b38_ok (Q : AHeap → AC → Int → Int → Prop) (Y38 : Tup [.int .i64, .ac, .ac, .ac, .int .i64] → AHeap → Prop) (X38 : Env → AHeap → Prop) (hX38 : ∀ s t H, fetterlockref6_Applied.R38 s t → Y38 s H → X38 t H) {x0 : Int} {x6 : AC} {x10 : AC} {x11 : AC} {x12 : Int} {H : AHeap} (j : Env) : fetterlockref6_Applied.b38 Q Y38 x0 x6 x10 x11 x12 H → wpC Try.prog fetterlockref6_Applied.c39 (upd (upd (upd (upd (upd j 0 (.one (.int .i64 x0))) 6 (.one x6)) 10 (.one x10)) 11 (.one x11)) 12 (.one (.int .i64 x12))) H (kSeq X38 (kBlk 0 (fetterlockref6_Applied.k35 Q))) := c_seq (c_seq (c_ops (s_cons (w_put (o_mov rfl (s_cons (w_put (o_mov rfl (s_cons (w_put (o_lens rfl (fun n_1 => s_cons (w_put (o_lt rfl rfl (s_nil (k_seq (c_if rfl (c_skip (k_seq (c_seq (c_blk (c_seq (c_ops (s_cons (w_put (o_mov rfl (s_cons (w_put (o_eq rfl rfl (s_nil (k_seq (c_if rfl (c_ops (s_cons (w_put (o_mov rfl (s_cons (w_put (o_mov rfl (s_cons (w_put (o_mov rfl (s_cons (w_put (o_mov rfl (s_cons (w_put (o_ia rfl rfl (fun q_2 => s_cons (w_put (o_ld1 rfl (fun (v_3 : Bool) => s_cons (w_put (o_mov rfl (s_cons (w_gputT rfl (o_mov rfl (s_cons (w_gputY rfl (o_mov rfl (s_cons (w_gputY rfl (o_ia rfl rfl (fun q_4 => s_cons (w_gputY rfl (o_ld1 rfl (fun (v_5 : Bool) => s_cons (w_put (o_pickT rfl rfl (s_cons (w_put (o_ia rfl rfl (fun q_6 => s_cons (w_run (o_st rfl rfl rfl (fun H_7 => s_nil (k_blk (k_seq (c_ops (s_cons (w_put (o_mov rfl (s_cons (w_put (o_add rfl rfl (s_cons (w_put (o_mov rfl (s_nil (k_seq (hX38 _ _ _ ⟨rfl, rfl, rfl, rfl, rfl, trivial⟩))))))))))))))))))))))))))))))))))) (s_cons (w_gputN rfl (s_cons (w_gputN rfl (s_cons (w_gputN rfl (s_cons (w_put (o_pickF rfl rfl (s_cons (w_put (o_ia rfl rfl (fun q_8 => s_cons (w_run (o_st rfl rfl rfl (fun H_9 => s_nil (k_blk (k_seq (c_ops (s_cons (w_put (o_mov rfl (s_cons (w_put (o_add rfl rfl (s_cons (w_put (o_mov rfl (s_nil (k_seq (hX38 _ _ _ ⟨rfl, rfl, rfl, rfl, rfl, trivial⟩))))))))))))))))))))))))))))))))))))))))))))))))))))))) (c_seq (c_ops (s_cons (w_put (o_mov rfl (s_cons (w_put (o_eq rfl rfl (s_nil (k_seq (c_if rfl (c_ops (s_cons (w_put (o_mov rfl (s_cons (w_put (o_mov rfl (s_cons (w_put (o_mov rfl (s_cons (w_put (o_mov rfl (s_cons (w_put (o_ia rfl rfl (fun q_10 => s_cons (w_put (o_ld1 rfl (fun (v_11 : Bool) => s_cons (w_put (o_mov rfl (s_cons (w_gputF rfl (s_cons (w_gputN rfl (s_cons (w_gputN rfl (s_cons (w_gputN rfl (s_cons (w_put (o_pickT rfl rfl (s_cons (w_put (o_ia rfl rfl (fun q_12 => s_cons (w_run (o_st rfl rfl rfl (fun H_13 => s_nil (k_blk (k_seq (c_ops (s_cons (w_put (o_mov rfl (s_cons (w_put (o_add rfl rfl (s_cons (w_put (o_mov rfl (s_nil (k_seq (hX38 _ _ _ ⟨rfl, rfl, rfl, rfl, rfl, trivial⟩))))))))))))))))))))))))))))))) (o_mov rfl (s_cons (w_gputY rfl (o_mov rfl (s_cons (w_gputY rfl (o_ia rfl rfl (fun q_14 => s_cons (w_gputY rfl (o_ld1 rfl (fun (v_15 : Bool) => s_cons (w_put (o_pickF rfl rfl (s_cons (w_put (o_ia rfl rfl (fun q_16 => s_cons (w_run (o_st rfl rfl rfl (fun H_17 => s_nil (k_blk (k_seq (c_ops (s_cons (w_put (o_mov rfl (s_cons (w_put (o_add rfl rfl (s_cons (w_put (o_mov rfl (s_nil (k_seq (hX38 _ _ _ ⟨rfl, rfl, rfl, rfl, rfl, trivial⟩))))))))))))))))))))))))))))))))))))))))))))))))))))))))))) (c_ops (s_cons (w_put (o_mov rfl (s_cons (w_put (o_mov rfl (s_cons (w_put (o_mov rfl (s_cons (w_put (o_mov rfl (s_cons (w_put (o_ia rfl rfl (fun q_18 => s_cons (w_put (o_ld1 rfl (fun (v_19 : Bool) => s_cons (w_put (o_mov rfl (s_cons (w_put (o_mov rfl (s_cons (w_put (o_ia rfl rfl (fun q_20 => s_cons (w_put (o_ld1 rfl (fun (v_21 : Bool) => s_cons (w_put (o_neb rfl rfl (s_cons (w_put (o_ia rfl rfl (fun q_22 => s_cons (w_run (o_st rfl rfl rfl (fun H_23 => s_nil (k_blk (k_seq (c_ops (s_cons (w_put (o_mov rfl (s_cons (w_put (o_add rfl rfl (s_cons (w_put (o_mov rfl (s_nil (k_seq (hX38 _ _ _ ⟨rfl, rfl, rfl, rfl, rfl, trivial⟩)))))))))))))))))))))))))))))))))))))))))))))))))))))))))))))))))))))))))))))))))) (c_exit (k_seqE (k_seqE (k_blkH (k_seq (c_seq (c_ops (s_cons (w_put (o_mov rfl (s_cons (w_put (o_call rfl (cv_a2_o1 (fun H_24 (v_25 : AC) (v_26 : Int) (v_27 : Int) => s_cons (w_put (o_ex rfl rfl rfl (s_cons (w_put (o_ex rfl rfl rfl (s_cons (w_run (o_st rfl rfl rfl (fun H_28 => s_cons (w_put (o_mov rfl (s_nil (k_seq (c_ret (k_topR (r_cell2 rfl (fun (r0_29 : AC) (r1_30 : Int) => r_one rfl (r_nil (fun h => ⟨(r0_29, (r1_30 : Int), (v_27 : Int), ()), rfl, h⟩)))))))))))))))))))))))))))))))))))))))))))))))))))
theorem fetterlockref6_Applied.l38_ok (Q : AHeap → AC → Int → Int → Prop) {x0 : Int} {x6 : AC} {x10 : AC} {x11 : AC} {x12 : Int} {H : AHeap} {t : Env} (h0 : t 0 = (.one (.int .i64 x0))) (h6 : t 6 = (.one x6)) (h10 : t 10 = (.one x10)) (h11 : t 11 = (.one x11)) (h12 : t 12 = (.one (.int .i64 x12))) : fetterlockref6_Applied.l38 Q x0 x6 x10 x11 x12 H → wpC Try.prog (.loop fetterlockref6_Applied.c39) t H (kBlk 0 (fetterlockref6_Applied.k35 Q)) :=
  m_loop fetterlockref6_Applied.R38 ⟨h0, h6, h10, h11, h12, trivial⟩ fun X Y hX s t H hR hB => by
    have g := fetterlockref6_Applied.b38_ok Q Y X hX t hB
    rw [upd_self hR.1] at g
    rw [upd_self hR.2.1] at g
    rw [upd_self hR.2.2.1] at g
    rw [upd_self hR.2.2.2.1] at g
    rw [upd_self hR.2.2.2.2.1] at g
    exact g
theorem fetterlockref6_Applied.p5_okE (Q : AHeap → AC → Int → Int → Prop) {x0 : Int} {x4 : AC} {x5 : AC} {x6 : AC} {x22 : Bool} {H : AHeap} (j : Env) : fetterlockref6_Applied.p5 Q x0 x4 x5 x6 x22 H → wpC Try.prog fetterlockref6_Applied.c5 (upd (upd (upd (upd (upd j 0 (.one (.int .i64 x0))) 4 (.one x4)) 5 (.one x5)) 6 (.one x6)) 22 (.one (.bool x22))) H (fetterlockref6_Applied.k3 Q) := c_if rfl (c_seq (c_ops (s_cons (w_put (o_bld rfl (s_cons (w_run (o_st rfl rfl rfl (fun H_1 => s_cons (w_put (o_mov rfl (s_nil (k_seq (c_ret (k_seqR (k_topR (r_cell2 rfl (fun (r0_2 : AC) (r1_3 : Int) => r_one rfl (r_nil (fun h => ⟨(r0_2, (r1_3 : Int), (7 : Int), ()), rfl, h⟩)))))))))))))))))))) (c_skip (k_seq (c_seq (c_seq (c_ops (s_cons (w_put (o_ld2 rfl (fun (v_4 : AC) (v_5 : Int) => s_cons (w_put (o_call rfl (cv_1 (fun H_6 (v_7 : Int) => s_cons (w_put (o_mov rfl (s_nil (k_seq (c_seq (c_ops (s_cons (w_put (o_mov rfl (s_cons (w_put (o_ne rfl rfl (s_nil (k_seq (c_if rfl (c_seq (c_ops (s_cons (w_put (o_bld rfl (s_cons (w_put (o_mov rfl (s_cons (w_run (o_st rfl rfl rfl (fun H_8 => s_cons (w_put (o_mov rfl (s_nil (k_seq (c_ret (k_seqR (k_topR (r_cell2 rfl (fun (r0_9 : AC) (r1_10 : Int) => r_one rfl (r_nil (fun h => ⟨(r0_9, (r1_10 : Int), (v_7 : Int), ()), rfl, h⟩))))))))))))))))))))))) (c_skip (k_seq (c_seq (c_seq (c_ops (s_cons (w_put (o_ld2 rfl (fun (v_11 : AC) (v_12 : Int) => s_cons (w_put (o_call rfl (cv_1 (fun H_13 (v_14 : Int) => s_cons (w_put (o_mov rfl (s_nil (k_seq (c_seq (c_ops (s_cons (w_put (o_mov rfl (s_cons (w_put (o_ne rfl rfl (s_nil (k_seq (c_if rfl (c_seq (c_ops (s_cons (w_put (o_bld rfl (s_cons (w_put (o_mov rfl (s_cons (w_run (o_st rfl rfl rfl (fun H_15 => s_cons (w_put (o_mov rfl (s_nil (k_seq (c_ret (k_seqR (k_topR (r_cell2 rfl (fun (r0_16 : AC) (r1_17 : Int) => r_one rfl (r_nil (fun h => ⟨(r0_16, (r1_17 : Int), (v_14 : Int), ()), rfl, h⟩))))))))))))))))))))))) (c_skip (k_seq (c_seq (c_ops (s_cons (w_put (o_ld2 rfl (fun (v_18 : AC) (v_19 : Int) => s_cons (w_put (o_call rfl (cv_1 (fun H_20 (v_21 : AC) => s_cons (w_put (o_mov rfl (s_nil (k_seq (c_seq (c_ops (s_cons (w_put (o_ld2 rfl (fun (v_22 : AC) (v_23 : Int) => s_cons (w_put (o_call rfl (cv_1 (fun H_24 (v_25 : AC) => s_cons (w_put (o_mov rfl (s_nil (k_seq (c_seq (c_seq (c_ops (s_cons (w_put (o_mov rfl (s_nil (k_seq (c_blk (fetterlockref6_Applied.l38_ok Q rfl rfl rfl rfl rfl))))))))))))))))))))))))))))))))))))))))))))))))))))))))))))))))))))))))))))))))))))))))))))))))
theorem fetterlockref6_Applied.p5_ok (Q : AHeap → AC → Int → Int → Prop) {x0 : Int} {x4 : AC} {x5 : AC} {x6 : AC} {x22 : Bool} {H : AHeap} {t : Env} (h0 : t 0 = (.one (.int .i64 x0))) (h4 : t 4 = (.one x4)) (h5 : t 5 = (.one x5)) (h6 : t 6 = (.one x6)) (h22 : t 22 = (.one (.bool x22))) (h : fetterlockref6_Applied.p5 Q x0 x4 x5 x6 x22 H) : wpC Try.prog fetterlockref6_Applied.c5 t H (fetterlockref6_Applied.k3 Q) := by
  have g := fetterlockref6_Applied.p5_okE Q t h
  rw [upd_self h0] at g
  rw [upd_self h4] at g
  rw [upd_self h5] at g
  rw [upd_self h6] at g
  rw [upd_self h22] at g
  exact g
theorem fetterlockref6_Applied.ok {a0 : Int} {a1_0 : AC} {a1_1 : Int} {a2_0 : AC} {a2_1 : Int} {H : AHeap} (Q : AHeap → AC → Int → Int → Prop) : fetterlockref6_Applied.W a0 a1_0 a1_1 a2_0 a2_1 H Q → wpF Try.prog fetterlockref6_Applied.c [.cell 6 true [.ac, .int .i64], .tm 7] (envOf [(.one (.int .i64 a0)), (.agg [a1_0, (.int .i64 a1_1)]), (.agg [a2_0, (.int .i64 a2_1)])]) H (fetterlockref6_Applied.KQ Q) := c_seq (c_ops (s_cons (w_put (o_box rfl (fun p_1 H_2 => s_cons (w_put (o_box rfl (fun p_3 H_4 => s_cons (w_put (o_new (fun p_5 H_6 => s_cons (w_put (o_mov rfl (s_nil (k_seq (c_seq (c_seq (c_ops (s_cons (w_put (o_mov rfl (s_cons (w_put (o_ne rfl rfl (s_cons (w_put (o_mov rfl (s_cons (w_gputT rfl (o_mov rfl (s_cons (w_gputY rfl (o_ne rfl rfl (s_cons (w_put (o_pickT rfl rfl (s_cons (w_put (o_mov rfl (s_cons (w_gputT rfl (o_mov rfl (s_cons (w_gputY rfl (o_ne rfl rfl (s_cons (w_put (o_pickT rfl rfl (s_nil (k_seq (fetterlockref6_Applied.p5_ok Q rfl rfl rfl rfl rfl)))))))))) (s_cons (w_gputN rfl (s_cons (w_put (o_pickF rfl rfl (s_nil (k_seq (fetterlockref6_Applied.p5_ok Q rfl rfl rfl rfl rfl)))))))))))))))))))) (s_cons (w_gputN rfl (s_cons (w_put (o_pickF rfl rfl (s_cons (w_put (o_mov rfl (s_cons (w_gputN rfl (s_cons (w_gputN rfl (s_cons (w_put (o_pickF rfl rfl (s_nil (k_seq (fetterlockref6_Applied.p5_ok Q rfl rfl rfl rfl rfl)))))))))))))))))))))))))))))))))))))))))))))))
theorem fetterlockref6_Applied.slimOk : slimOk [(18, [])] (Try.f21.body.getD .skip) = true := by kernel_rfl
theorem fetterlockref6_Applied.resC : resC Try.prog aggs Try.f21.ntmps (slim [(18, [])] (Try.f21.body.getD .skip)) = some fetterlockref6_Applied.c := by kernel_rfl
theorem fetterlockref6_Applied.resR : resR Try.prog Try.f21.results.toList = some [.cell 6 true [.ac, .int .i64], .tm 7] := by kernel_rfl
theorem fetterlockref6_Applied.bodyEq : Try.f21.body = some (Try.f21.body.getD .skip) := by kernel_rfl
theorem fetterlockref6_Applied.run {a0 : Int} {a1_0 : AC} {a1_1 : Int} {a2_0 : AC} {a2_1 : Int} {H : AHeap} {Q : AHeap → AC → Int → Int → Prop} (h : fetterlockref6_Applied.W a0 a1_0 a1_1 a2_0 a2_1 H Q) : Fn.fetterlockref6_Applied a0 a1_0 a1_1 a2_0 a2_1 H Q := by
  unfold Fn.fetterlockref6_Applied RunT
  exact run_of aggs_ok [(18, [])] Try.func21 fetterlockref6_Applied.bodyEq fetterlockref6_Applied.slimOk fetterlockref6_Applied.resC fetterlockref6_Applied.resR (Nat.le_of_ble_eq_true (by kernel_rfl)) (fetterlockref6_Applied.ok Q h)

def solve_Not.c : RC := (.seq (.ops [.put 1 (.box 27 (.tm 0)),
    .put 2 (.new 27 [(.sl none 0 0 (some 0)), (.int .i64 0)]),
    .put 3 (.mov (.ct (.one (.int .i64 0))))]) (.seq (.seq (.ops [.put 6 (.ld true [.ac, .int .i64] (.tm 1)),
    .put 7 (.call 31 [(.tm 6)]),
    .put 4 (.mov (.tm 7))]) (.seq (.ops [.put 8 (.mov (.tm 4)),
    .put 9 (.cm .ne (.tm 8) (.ct (.one (.int .i64 0))))]) (.cond 9 (.seq (.ops [.put 10 (.bld [(.sl none 0 0 (some 0)), (.int .i64 0)] []),
    .put 11 (.mov (.tm 4)),
    .run (.st 2 (.tm 2) (.tm 10)),
    .put 3 (.mov (.tm 11))]) .ret) .skip))) (.seq (.ops [.put 12 (.call 41 []),
    .put 5 (.mov (.tm 12))]) (.seq (.ops [.put 13 (.mov (.tm 5)),
    .put 14 (.mov (.tm 5)),
    .put 15 (.mov (.tm 5)),
    .put 16 (.ld true [.ac, .int .i64] (.tm 1)),
    .put 17 (.call 51 [(.tm 15), (.tm 16)]),
    .put 18 (.call 56 [(.tm 14), (.tm 17)]),
    .put 19 (.call 42 [(.tm 13), (.tm 18)]),
    .put 20 (.ex (.tm 19) 0),
    .put 21 (.ex (.tm 19) 1),
    .run (.st 2 (.tm 2) (.tm 20)),
    .put 3 (.mov (.tm 21))]) .ret))))
abbrev solve_Not.KQ (Q : AHeap → AC → Int → Int → Prop) : AV → AHeap → Prop := fun v H => ∃ xs : Tup (flat [(true, [.ac, .int .i64]), (false, [.int .i64])]), v = joinR (splitP [(true, [.ac, .int .i64]), (false, [.int .i64])] (cellsOf (flat [(true, [.ac, .int .i64]), (false, [.int .i64])]) xs)) ∧ app (flat [(true, [.ac, .int .i64]), (false, [.int .i64])]) (Q H) xs
abbrev solve_Not.K (Q : AHeap → AC → Int → Int → Prop) : Ex → Env → AHeap → Prop := kTop [.cell 2 true [.ac, .int .i64], .tm 3] (solve_Not.KQ Q)
def solve_Not.W (a0_0 : AC) (a0_1 : Int) (H : AHeap) (Q : AHeap → AC → Int → Int → Prop) : Prop :=
  New 27 [a0_0, (.int .i64 a0_1)] H fun p_1 H_2 =>
  New 27 [(.sl none 0 0 (some 0)), (.int .i64 0)] H_2 fun p_3 H_4 =>
  Ld [.ac, .int .i64] H_4 p_1 fun (v_5 : AC) (v_6 : Int) =>
  Fn.solve_CheckDiagram v_5 v_6 H_4 fun H_7 (v_8 : Int) =>
  CondB (v_8 != 0)
    (Sto H_7 p_3 [(.sl none 0 0 (some 0)), (.int .i64 0)] fun H_9 =>
    Ld [.ac, .int .i64] H_9 p_3 fun (r0_10 : AC) (r1_11 : Int) =>
    Q H_9 r0_10 r1_11 v_8)
    (Fn.solve_newManager  H_7 fun H_12 (v_13 : AC) =>
    Ld [.ac, .int .i64] H_12 p_1 fun (v_14 : AC) (v_15 : Int) =>
    Fn.solve_manager_add v_13 v_14 v_15 H_12 fun H_16 (v_17 : Int) =>
    Fn.solve_manager_not v_13 v_17 H_16 fun H_18 (v_19 : Int) =>
    Fn.solve_manager_result v_13 v_19 H_18 fun H_20 (v_21 : AC) (v_22 : Int) (v_23 : Int) =>
    Sto H_20 p_3 [v_21, (.int .i64 v_22)] fun H_24 =>
    Ld [.ac, .int .i64] H_24 p_3 fun (r0_25 : AC) (r1_26 : Int) =>
    Q H_24 r0_25 r1_26 v_23)
theorem solve_Not.ok {a0_0 : AC} {a0_1 : Int} {H : AHeap} (Q : AHeap → AC → Int → Int → Prop) : solve_Not.W a0_0 a0_1 H Q → wpF Try.prog solve_Not.c [.cell 2 true [.ac, .int .i64], .tm 3] (envOf [(.agg [a0_0, (.int .i64 a0_1)])]) H (solve_Not.KQ Q) := c_seq (c_ops (s_cons (w_put (o_box rfl (fun p_1 H_2 => s_cons (w_put (o_new (fun p_3 H_4 => s_cons (w_put (o_mov rfl (s_nil (k_seq (c_seq (c_seq (c_ops (s_cons (w_put (o_ld2 rfl (fun (v_5 : AC) (v_6 : Int) => s_cons (w_put (o_call rfl (cv_1 (fun H_7 (v_8 : Int) => s_cons (w_put (o_mov rfl (s_nil (k_seq (c_seq (c_ops (s_cons (w_put (o_mov rfl (s_cons (w_put (o_ne rfl rfl (s_nil (k_seq (c_if rfl (c_seq (c_ops (s_cons (w_put (o_bld rfl (s_cons (w_put (o_mov rfl (s_cons (w_run (o_st rfl rfl rfl (fun H_9 => s_cons (w_put (o_mov rfl (s_nil (k_seq (c_ret (k_seqR (k_topR (r_cell2 rfl (fun (r0_10 : AC) (r1_11 : Int) => r_one rfl (r_nil (fun h => ⟨(r0_10, (r1_11 : Int), (v_8 : Int), ()), rfl, h⟩))))))))))))))))))))))) (c_skip (k_seq (c_seq (c_ops (s_cons (w_put (o_call rfl (cv_1 (fun H_12 (v_13 : AC) => s_cons (w_put (o_mov rfl (s_nil (k_seq (c_seq (c_ops (s_cons (w_put (o_mov rfl (s_cons (w_put (o_mov rfl (s_cons (w_put (o_mov rfl (s_cons (w_put (o_ld2 rfl (fun (v_14 : AC) (v_15 : Int) => s_cons (w_put (o_call rfl (cv_1 (fun H_16 (v_17 : Int) => s_cons (w_put (o_call rfl (cv_1 (fun H_18 (v_19 : Int) => s_cons (w_put (o_call rfl (cv_a2_o1 (fun H_20 (v_21 : AC) (v_22 : Int) (v_23 : Int) => s_cons (w_put (o_ex rfl rfl rfl (s_cons (w_put (o_ex rfl rfl rfl (s_cons (w_run (o_st rfl rfl rfl (fun H_24 => s_cons (w_put (o_mov rfl (s_nil (k_seq (c_ret (k_topR (r_cell2 rfl (fun (r0_25 : AC) (r1_26 : Int) => r_one rfl (r_nil (fun h => ⟨(r0_25, (r1_26 : Int), (v_23 : Int), ()), rfl, h⟩)))))))))))))))))))))))))))))))))))))))))))))))))))))))))))))))))))))))))))))))))))))))))))))))))
theorem solve_Not.slimOk : slimOk [] (Try.f22.body.getD .skip) = true := by kernel_rfl
theorem solve_Not.resC : resC Try.prog aggs Try.f22.ntmps (slim [] (Try.f22.body.getD .skip)) = some solve_Not.c := by kernel_rfl
theorem solve_Not.resR : resR Try.prog Try.f22.results.toList = some [.cell 2 true [.ac, .int .i64], .tm 3] := by kernel_rfl
theorem solve_Not.bodyEq : Try.f22.body = some (Try.f22.body.getD .skip) := by kernel_rfl
theorem solve_Not.run {a0_0 : AC} {a0_1 : Int} {H : AHeap} {Q : AHeap → AC → Int → Int → Prop} (h : solve_Not.W a0_0 a0_1 H Q) : Fn.solve_Not a0_0 a0_1 H Q := by
  unfold Fn.solve_Not RunT
  exact run_of aggs_ok [] Try.func22 solve_Not.bodyEq solve_Not.slimOk solve_Not.resC solve_Not.resR (Nat.le_of_ble_eq_true (by kernel_rfl)) (solve_Not.ok Q h)

def fetterlockref6_Negated.c19 : RC := (.seq (.seq (.ops [.put 15 (.mov (.tm 6)),
    .put 16 (.mov (.tm 5)),
    .put 17 (.lens (.tm 16)),
    .put 18 (.cm .lt (.tm 15) (.tm 17))]) (.cond 18 .skip (.exit 0))) (.seq (.block 1 (.ops [.put 21 (.mov (.tm 5)),
    .put 22 (.mov (.tm 6)),
    .put 23 (.mov (.tm 5)),
    .put 24 (.mov (.tm 6)),
    .put 25 (.ia 1 (.tm 23) (.tm 24)),
    .put 26 (.ld false [.bool] (.tm 25)),
    .put 27 (.not (.tm 26)),
    .put 28 (.ia 1 (.tm 21) (.tm 22)),
    .run (.st 1 (.tm 28) (.tm 27))])) (.ops [.put 19 (.mov (.tm 6)),
    .put 20 (.ar .add (.tm 19) (.ct (.one (.int .i64 1)))),
    .put 6 (.mov (.tm 20))])))
def fetterlockref6_Negated.c : RC := (.seq (.ops [.put 1 (.box 27 (.tm 0)),
    .put 2 (.new 27 [(.sl none 0 0 (some 0)), (.int .i64 0)]),
    .put 3 (.mov (.ct (.one (.int .i64 0))))]) (.seq (.seq (.ops [.put 7 (.ld true [.ac, .int .i64] (.tm 1)),
    .put 8 (.call 29 [(.tm 7)]),
    .put 4 (.mov (.tm 8))]) (.seq (.ops [.put 9 (.mov (.tm 4)),
    .put 10 (.cm .ne (.tm 9) (.ct (.one (.int .i64 0))))]) (.cond 10 (.seq (.ops [.put 11 (.bld [(.sl none 0 0 (some 0)), (.int .i64 0)] []),
    .put 12 (.mov (.tm 4)),
    .run (.st 2 (.tm 2) (.tm 11)),
    .put 3 (.mov (.tm 12))]) .ret) .skip))) (.seq (.ops [.put 13 (.ld true [.ac, .int .i64] (.tm 1)),
    .put 14 (.call 55 [(.tm 13)]),
    .put 5 (.mov (.tm 14))]) (.seq (.seq (.ops [.put 6 (.mov (.ct (.one (.int .i64 0))))]) (.block 0 (.loop fetterlockref6_Negated.c19))) (.seq (.ops [.put 29 (.mov (.tm 5)),
    .put 30 (.call 16 [(.tm 29)]),
    .put 31 (.ex (.tm 30) 0),
    .put 32 (.ex (.tm 30) 1),
    .run (.st 2 (.tm 2) (.tm 31)),
    .put 3 (.mov (.tm 32))]) .ret)))))
abbrev fetterlockref6_Negated.KQ (Q : AHeap → AC → Int → Int → Prop) : AV → AHeap → Prop := fun v H => ∃ xs : Tup (flat [(true, [.ac, .int .i64]), (false, [.int .i64])]), v = joinR (splitP [(true, [.ac, .int .i64]), (false, [.int .i64])] (cellsOf (flat [(true, [.ac, .int .i64]), (false, [.int .i64])]) xs)) ∧ app (flat [(true, [.ac, .int .i64]), (false, [.int .i64])]) (Q H) xs
abbrev fetterlockref6_Negated.K (Q : AHeap → AC → Int → Int → Prop) : Ex → Env → AHeap → Prop := kTop [.cell 2 true [.ac, .int .i64], .tm 3] (fetterlockref6_Negated.KQ Q)
abbrev fetterlockref6_Negated.k15 (Q : AHeap → AC → Int → Int → Prop) : Ex → Env → AHeap → Prop := kSeq (fun t H => wpC Try.prog (.seq (.ops [.put 29 (.mov (.tm 5)),
    .put 30 (.call 16 [(.tm 29)]),
    .put 31 (.ex (.tm 30) 0),
    .put 32 (.ex (.tm 30) 1),
    .run (.st 2 (.tm 2) (.tm 31)),
    .put 3 (.mov (.tm 32))]) .ret) t H (fetterlockref6_Negated.K Q)) (fetterlockref6_Negated.K Q)
def fetterlockref6_Negated.R18 (s : Tup [.ac, .ac, .int .i64]) (t : Env) : Prop := t 2 = (.one (s.1)) ∧ t 5 = (.one (s.2.1)) ∧ t 6 = (.one (.int .i64 (s.2.2.1))) ∧ True
def fetterlockref6_Negated.b18 (Q : AHeap → AC → Int → Int → Prop) (Y18 : Tup [.ac, .ac, .int .i64] → AHeap → Prop) (x2 : AC) (x5 : AC) (x6 : Int) (H : AHeap) : Prop :=
  LenS x5 fun n_1 =>
  CondB (decide (x6 < n_1))
    (IA 1 x5 x6 fun q_2 =>
    Ld [.bool] H q_2 fun (v_3 : Bool) =>
    IA 1 x5 x6 fun q_4 =>
    Sto H q_4 [(.bool (!v_3))] fun H_5 =>
    Y18 (x2, x5, ((IntKind.wrap .i64 (x6 + 1)) : Int), ()) H_5)
    (Fn.fetterlockref6_OfTable x5 H fun H_6 (v_7 : AC) (v_8 : Int) (v_9 : Int) =>
    Sto H_6 x2 [v_7, (.int .i64 v_8)] fun H_10 =>
    Ld [.ac, .int .i64] H_10 x2 fun (r0_11 : AC) (r1_12 : Int) =>
    Q H_10 r0_11 r1_12 v_9)
def fetterlockref6_Negated.l18 (Q : AHeap → AC → Int → Int → Prop) (x2 : AC) (x5 : AC) (x6 : Int) (H : AHeap) : Prop := LoopT (Tup [.ac, .ac, .int .i64]) (fun Y s H => fetterlockref6_Negated.b18 Q Y (s.1) (s.2.1) (s.2.2.1) H) (x2, x5, x6, ()) H
def fetterlockref6_Negated.W (a0_0 : AC) (a0_1 : Int) (H : AHeap) (Q : AHeap → AC → Int → Int → Prop) : Prop :=
  New 27 [a0_0, (.int .i64 a0_1)] H fun p_1 H_2 =>
  New 27 [(.sl none 0 0 (some 0)), (.int .i64 0)] H_2 fun p_3 H_4 =>
  Ld [.ac, .int .i64] H_4 p_1 fun (v_5 : AC) (v_6 : Int) =>
  Fn.fetterlockref6_DiagramFault v_5 v_6 H_4 fun H_7 (v_8 : Int) =>
  CondB (v_8 != 0)
    (Sto H_7 p_3 [(.sl none 0 0 (some 0)), (.int .i64 0)] fun H_9 =>
    Ld [.ac, .int .i64] H_9 p_3 fun (r0_10 : AC) (r1_11 : Int) =>
    Q H_9 r0_10 r1_11 v_8)
    (Ld [.ac, .int .i64] H_7 p_1 fun (v_12 : AC) (v_13 : Int) =>
    Fn.fetterlockref6_DiagramTable v_12 v_13 H_7 fun H_14 (v_15 : AC) =>
    fetterlockref6_Negated.l18 Q p_3 v_15 0 H_14)
theorem fetterlockref6_Negated.b18_ok (Q : AHeap → AC → Int → Int → Prop) (Y18 : Tup [.ac, .ac, .int .i64] → AHeap → Prop) (X18 : Env → AHeap → Prop) (hX18 : ∀ s t H, fetterlockref6_Negated.R18 s t → Y18 s H → X18 t H) {x2 : AC} {x5 : AC} {x6 : Int} {H : AHeap} (j : Env) : fetterlockref6_Negated.b18 Q Y18 x2 x5 x6 H → wpC Try.prog fetterlockref6_Negated.c19 (upd (upd (upd j 2 (.one x2)) 5 (.one x5)) 6 (.one (.int .i64 x6))) H (kSeq X18 (kBlk 0 (fetterlockref6_Negated.k15 Q))) := c_seq (c_seq (c_ops (s_cons (w_put (o_mov rfl (s_cons (w_put (o_mov rfl (s_cons (w_put (o_lens rfl (fun n_1 => s_cons (w_put (o_lt rfl rfl (s_nil (k_seq (c_if rfl (c_skip (k_seq (c_seq (c_blk (c_ops (s_cons (w_put (o_mov rfl (s_cons (w_put (o_mov rfl (s_cons (w_put (o_mov rfl (s_cons (w_put (o_mov rfl (s_cons (w_put (o_ia rfl rfl (fun q_2 => s_cons (w_put (o_ld1 rfl (fun (v_3 : Bool) => s_cons (w_put (o_not rfl (s_cons (w_put (o_ia rfl rfl (fun q_4 => s_cons (w_run (o_st rfl rfl rfl (fun H_5 => s_nil (k_blk (k_seq (c_ops (s_cons (w_put (o_mov rfl (s_cons (w_put (o_add rfl rfl (s_cons (w_put (o_mov rfl (s_nil (k_seq (hX18 _ _ _ ⟨rfl, rfl, rfl, trivial⟩)))))))))))))))))))))))))))))))))))))))))))))))) (c_exit (k_seqE (k_seqE (k_blkH (k_seq (c_seq (c_ops (s_cons (w_put (o_mov rfl (s_cons (w_put (o_call rfl (cv_a2_o1 (fun H_6 (v_7 : AC) (v_8 : Int) (v_9 : Int) => s_cons (w_put (o_ex rfl rfl rfl (s_cons (w_put (o_ex rfl rfl rfl (s_cons (w_run (o_st rfl rfl rfl (fun H_10 => s_cons (w_put (o_mov rfl (s_nil (k_seq (c_ret (k_topR (r_cell2 rfl (fun (r0_11 : AC) (r1_12 : Int) => r_one rfl (r_nil (fun h => ⟨(r0_11, (r1_12 : Int), (v_9 : Int), ()), rfl, h⟩)))))))))))))))))))))))))))))))))))))))))))))))))))
theorem fetterlockref6_Negated.l18_ok (Q : AHeap → AC → Int → Int → Prop) {x2 : AC} {x5 : AC} {x6 : Int} {H : AHeap} {t : Env} (h2 : t 2 = (.one x2)) (h5 : t 5 = (.one x5)) (h6 : t 6 = (.one (.int .i64 x6))) : fetterlockref6_Negated.l18 Q x2 x5 x6 H → wpC Try.prog (.loop fetterlockref6_Negated.c19) t H (kBlk 0 (fetterlockref6_Negated.k15 Q)) :=
  m_loop fetterlockref6_Negated.R18 ⟨h2, h5, h6, trivial⟩ fun X Y hX s t H hR hB => by
    have g := fetterlockref6_Negated.b18_ok Q Y X hX t hB
    rw [upd_self hR.1] at g
    rw [upd_self hR.2.1] at g
    rw [upd_self hR.2.2.1] at g
    exact g
theorem fetterlockref6_Negated.ok {a0_0 : AC} {a0_1 : Int} {H : AHeap} (Q : AHeap → AC → Int → Int → Prop) : fetterlockref6_Negated.W a0_0 a0_1 H Q → wpF Try.prog fetterlockref6_Negated.c [.cell 2 true [.ac, .int .i64], .tm 3] (envOf [(.agg [a0_0, (.int .i64 a0_1)])]) H (fetterlockref6_Negated.KQ Q) := c_seq (c_ops (s_cons (w_put (o_box rfl (fun p_1 H_2 => s_cons (w_put (o_new (fun p_3 H_4 => s_cons (w_put (o_mov rfl (s_nil (k_seq (c_seq (c_seq (c_ops (s_cons (w_put (o_ld2 rfl (fun (v_5 : AC) (v_6 : Int) => s_cons (w_put (o_call rfl (cv_1 (fun H_7 (v_8 : Int) => s_cons (w_put (o_mov rfl (s_nil (k_seq (c_seq (c_ops (s_cons (w_put (o_mov rfl (s_cons (w_put (o_ne rfl rfl (s_nil (k_seq (c_if rfl (c_seq (c_ops (s_cons (w_put (o_bld rfl (s_cons (w_put (o_mov rfl (s_cons (w_run (o_st rfl rfl rfl (fun H_9 => s_cons (w_put (o_mov rfl (s_nil (k_seq (c_ret (k_seqR (k_topR (r_cell2 rfl (fun (r0_10 : AC) (r1_11 : Int) => r_one rfl (r_nil (fun h => ⟨(r0_10, (r1_11 : Int), (v_8 : Int), ()), rfl, h⟩))))))))))))))))))))))) (c_skip (k_seq (c_seq (c_ops (s_cons (w_put (o_ld2 rfl (fun (v_12 : AC) (v_13 : Int) => s_cons (w_put (o_call rfl (cv_1 (fun H_14 (v_15 : AC) => s_cons (w_put (o_mov rfl (s_nil (k_seq (c_seq (c_seq (c_ops (s_cons (w_put (o_mov rfl (s_nil (k_seq (c_blk (fetterlockref6_Negated.l18_ok Q rfl rfl rfl))))))))))))))))))))))))))))))))))))))))))))))))))))))))))))))))
theorem fetterlockref6_Negated.slimOk : slimOk [] (Try.f23.body.getD .skip) = true := by kernel_rfl
theorem fetterlockref6_Negated.resC : resC Try.prog aggs Try.f23.ntmps (slim [] (Try.f23.body.getD .skip)) = some fetterlockref6_Negated.c := by kernel_rfl
theorem fetterlockref6_Negated.resR : resR Try.prog Try.f23.results.toList = some [.cell 2 true [.ac, .int .i64], .tm 3] := by kernel_rfl
theorem fetterlockref6_Negated.bodyEq : Try.f23.body = some (Try.f23.body.getD .skip) := by kernel_rfl
theorem fetterlockref6_Negated.run {a0_0 : AC} {a0_1 : Int} {H : AHeap} {Q : AHeap → AC → Int → Int → Prop} (h : fetterlockref6_Negated.W a0_0 a0_1 H Q) : Fn.fetterlockref6_Negated a0_0 a0_1 H Q := by
  unfold Fn.fetterlockref6_Negated RunT
  exact run_of aggs_ok [] Try.func23 fetterlockref6_Negated.bodyEq fetterlockref6_Negated.slimOk fetterlockref6_Negated.resC fetterlockref6_Negated.resR (Nat.le_of_ble_eq_true (by kernel_rfl)) (fetterlockref6_Negated.ok Q h)
end Go.Proofs.Ytanaaabejeeakaa
end
section
/- Apply and Not. -/
namespace Go.Proofs.Ytanaaabejeeakaa
open Go.AI Go.AI.DT

/-- What an operation on diagrams answers: a fault, or the diagram of a function. -/
def ERes (H0 H : AHeap) (bad : Int) (g : (Nat → Bool) → Bool) (ns : AC) (root err : Int) : Prop :=
  (bad ≠ 0 ∧ err = bad ∧ root = 0 ∧ SlR H ns 3 []) ∨ (bad = 0 ∧ ∃ x : DT, x.RO ∧ (∀ ρ, x.eval ρ = g ρ) ∧ DResN H0 H x ns root err)
theorem emp {H H' : AHeap} {s : AC} {sz : Nat} (h : SlR H s sz []) : SlR H' s sz [] := by
  obtain ⟨a, z, cap, e, _⟩ := h.ex
  exact ⟨a, z, cap, e, fun i r hr => by simp at hr⟩
theorem ERes.keep {S : Nat → Prop} {H0 H H' : AHeap} {bad : Int} {g : (Nat → Bool) → Bool} {ns : AC} {root err : Int} (h : ERes H0 H bad g ns root err) (k : Keep S H H') (hS : ∀ y, S y → y < H0.size) : ERes H0 H' bad g ns root err := by
  rcases h with ⟨a, b, c, d⟩ | ⟨a, x, b, c, d⟩
  · exact .inl ⟨a, b, c, emp d⟩
  · exact .inr ⟨a, x, b, c, d.keep k hS⟩
theorem ERes.kp {H0 H H' : AHeap} {bad : Int} {g : (Nat → Bool) → Bool} {ns : AC} {root err : Int} (h : ERes H0 H bad g ns root err) (k : Kp H H') : ERes H0 H' bad g ns root err := h.keep k fun _ h => h.elim
theorem ERes.from {H0 H1 H : AHeap} {bad : Int} {g : (Nat → Bool) → Bool} {ns : AC} {root err : Int} (h : ERes H1 H bad g ns root err) (hs : H0.size ≤ H1.size) : ERes H0 H bad g ns root err := by
  rcases h with ⟨a, b, c, d⟩ | ⟨a, x, b, c, d⟩
  · exact .inl ⟨a, b, c, d⟩
  · exact .inr ⟨a, x, b, c, d.from hs⟩
theorem ERes.same {H0 H0' H : AHeap} {bad : Int} {g g' : (Nat → Bool) → Bool} {ns ns' : AC} {r r' e e' : Int} (h : ERes H0 H bad g ns r e) (h' : ERes H0' H bad g' ns' r' e') (hg : bad = 0 → ∀ ρ, g ρ = g' ρ) : e = e' ∧ r = r' ∧ ∃ l : List NRow, l.length ≤ 2000 ∧ SlR H ns 3 (nodeRows l) ∧ SlR H ns' 3 (nodeRows l) := by
  rcases h with ⟨a, rfl, rfl, d⟩ | ⟨a, x, b, c, d⟩ <;> rcases h' with ⟨a', rfl, rfl, d'⟩ | ⟨a', x', b', c', d'⟩
  · exact ⟨rfl, rfl, [], by simp, d, d'⟩
  · exact absurd a' a
  · exact absurd a a'
  · have : x = x' := canon' b b' fun ρ => (c ρ).trans ((hg a ρ).trans (c' ρ).symm)
    subst this
    exact d.res.same d'.res

/-- The function of a diagram. -/
def dVal (l : List NRow) (r : Int) (ρ : Nat → Bool) : Bool := (atR (bld l) r).eval ρ
def opB (op : Int) (a b : Bool) : Bool := if op = 4 then a && b else if op = 5 then a || b else a != b
open Classical in
noncomputable def applyFault (op : Int) (la : List NRow) (ra : Int) (lb : List NRow) (rb : Int) : Int :=
  if op ≠ 4 ∧ op ≠ 5 ∧ op ≠ 6 then 7 else if dFault la ra ≠ 0 then dFault la ra else dFault lb rb

theorem Apply_c {op ra rb : Int} {sa sb : AC} {la lb : List NRow} {H : AHeap} (ha : SlR H sa 3 (nodeRows la)) (hb : SlR H sb 3 (nodeRows lb)) :
    Fn.solve_Apply op sa ra sb rb H fun H' ns root err => ERes H H' (applyFault op la ra lb rb) (fun ρ => opB op (dVal la ra ρ) (dVal lb rb ρ)) ns root err ∧ Kp H H' := by
  refine solve_Apply.run ?_
  unfold solve_Apply.W
  refine New.own fun b1 H1 hb1 hs1 o1 k1 => New.own fun b2 H2 hb2 hs2 o2 k2 => New.own fun b3 H3 hb3 hs3 o3 k3 => ?_
  have kk := (k1.trans k2).trans k3
  have hz := kk.size
  have o13 := (o1.kp k2).kp k3
  have o23 := o2.kp k3
  -- an answer with a fault
  have fail : ∀ (H4 : AHeap) (e : Int), Kp H H4 → Own H4 b3 [.sl none 0 0 (some 0), .int .i64 0] → e = applyFault op la ra lb rb → e ≠ 0 →
      Sto H4 (.ptr (some (b3, 0))) [(.sl none 0 0 (some 0)), (.int .i64 0)] fun H_1 => Ld [.ac, .int .i64] H_1 (.ptr (some (b3, 0))) fun (r0_2 : AC) (r1_3 : Int) =>
        ERes H H_1 (applyFault op la ra lb rb) (fun ρ => opB op (dVal la ra ρ) (dVal lb rb ρ)) r0_2 r1_3 e ∧ Kp H H_1 := by
    intro H4 e k4 o4 he h0
    refine Sto.own o4 (Nat.le_refl 2) fun H5 o5 k5 hs5 => ?_
    exact Ld.o2 o5 (.sl none 0 0 (some 0)) (0 : Int) rfl ⟨.inl ⟨by rw [← he]; exact h0, he, rfl, SlR.nil _ _⟩, k4.fresh k5 fun y e => by have e' : y = b3 := e; omega⟩
  have bad : op ≠ 4 ∧ op ≠ 5 ∧ op ≠ 6 → solve_Apply.p5 (fun H' ns root err => ERes H H' (applyFault op la ra lb rb) (fun ρ => opB op (dVal la ra ρ) (dVal lb rb ρ)) ns root err ∧ Kp H H') op (.ptr (some (b1, 0))) (.ptr (some (b2, 0))) (.ptr (some (b3, 0))) true H3 := by
    intro h
    unfold solve_Apply.p5
    exact CondB.pos rfl (fail H3 7 kk o3 (by unfold applyFault; rw [if_pos h]) (by omega))
  have good : ¬ (op ≠ 4 ∧ op ≠ 5 ∧ op ≠ 6) → solve_Apply.p5 (fun H' ns root err => ERes H H' (applyFault op la ra lb rb) (fun ρ => opB op (dVal la ra ρ) (dVal lb rb ρ)) ns root err ∧ Kp H H') op (.ptr (some (b1, 0))) (.ptr (some (b2, 0))) (.ptr (some (b3, 0))) false H3 := by
    intro hop
    have hfault : applyFault op la ra lb rb = if dFault la ra ≠ 0 then dFault la ra else dFault lb rb := by unfold applyFault; rw [if_neg hop]
    unfold solve_Apply.p5
    refine CondB.neg rfl (Ld.o2 o13 sa ra rfl (Ld.o2 o23 sb rb rfl (NewS.own fun ab H4 hab hs4 oa k4 => LenS.mk ?_)))
    have kk4 := kk.trans k4
    unfold solve_Apply.l14
    refine LoopT.rule (fun m s0 H5 => ∃ k : Nat, k ≤ 2 ∧ m = 2 - k ∧ s0 = (op, .ptr (some (b1, 0)), .ptr (some (b2, 0)), .ptr (some (b3, 0)), .sl (some (ab, 0)) 2 2 (some 2), (2 : Int), (k : Int), ()) ∧
      Kp H4 H5 ∧ (0 < k → dFault la ra = 0) ∧ (1 < k → dFault lb rb = 0)) 2 ⟨0, by omega, rfl, rfl, Kp.refl _, fun h => by omega, fun h => by omega⟩ ?_
    rintro m s0 H5 back ⟨k, hk, rfl, rfl, k5, h1, h2⟩ hback
    simp only [solve_Apply.b14]
    have kk5 := kk4.trans k5
    have o15 := (o13.kp k4).kp k5
    have o25 := (o23.kp k4).kp k5
    have o35 := (o3.kp k4).kp k5
    refine CondB.dec (fun hlt => ?_) fun hge => ?_
    · have chk : ∀ (j : Nat) (sx : AC) (rx : Int) (lx : List NRow), H5.load (ab, 0 + j * 2) 2 = some [sx, .int .i64 rx] → SlR H sx 3 (nodeRows lx) → (dFault lx rx ≠ 0 → applyFault op la ra lb rb = dFault lx rx) →
          (dFault lx rx = 0 → ∀ H6, Kp H4 H6 → back (op, .ptr (some (b1, 0)), .ptr (some (b2, 0)), .ptr (some (b3, 0)), .sl (some (ab, 0)) 2 2 (some 2), (2 : Int), IntKind.wrap .i64 ((k : Int) + 1), ()) H6) →
          Ld [.ac, .int .i64] H5 (.ptr (some (ab, 0 + j * 2))) fun (v_2 : AC) (v_3 : Int) =>
            New 27 [(.sl none 0 0 (some 0)), (.int .i64 0)] H5 fun p_4 H_5 =>
            Sto H_5 p_4 [v_2, (.int .i64 v_3)] fun H_6 =>
            Ld [.ac, .int .i64] H_6 p_4 fun (v_7 : AC) (v_8 : Int) =>
            Fn.solve_CheckDiagram v_7 v_8 H_6 fun H_9 (v_10 : Int) =>
            CondB (v_10 != 0)
              (Sto H_9 (.ptr (some (b3, 0))) [(.sl none 0 0 (some 0)), (.int .i64 0)] fun H_11 =>
              Ld [.ac, .int .i64] H_11 (.ptr (some (b3, 0))) fun (r0_12 : AC) (r1_13 : Int) =>
              ERes H H_11 (applyFault op la ra lb rb) (fun ρ => opB op (dVal la ra ρ) (dVal lb rb ρ)) r0_12 r1_13 v_10 ∧ Kp H H_11)
              (back (op, .ptr (some (b1, 0)), .ptr (some (b2, 0)), .ptr (some (b3, 0)), .sl (some (ab, 0)) 2 2 (some 2), (2 : Int), IntKind.wrap .i64 ((k : Int) + 1), ()) H_9) := by
        intro j sx rx lx hld hx hf hgo
        refine Ld.a2 hld sx rx rfl rfl (NewSto.own rfl fun nb H6 hnb hs6 on k6 => Ld.o2 on sx rx rfl (RunT.imp ?_ (CheckDiagram_c (hx.kp (kk5.trans k6)))))
        rintro H7 (q : Int) ⟨rfl, k7⟩
        have k67 := k6.trans k7
        refine CondB.ne (fun hne => ?_) fun he => hgo he H7 (k5.trans k67)
        exact fail H7 _ (kk5.trans k67) (o35.kp k67) (hf hne).symm hne
      refine IA.mk (by omega) (by omega) ?_
      have hk' : k = 0 ∨ k = 1 := by omega
      rcases hk' with rfl | rfl
      · exact chk 0 sa ra la (by have := (oa.kp k5).load (o := 0) (n := 2) (by simp); simpa using this) ha (by rw [hfault]; intro h; rw [if_pos h]) fun h3 H6 k6 => hback 1 _ _ (by omega) ⟨1, by omega, rfl, by trivial, k6, fun _ => h3, fun h => by omega⟩
      · exact chk 1 sb rb lb (by have := (oa.kp k5).load (o := 2) (n := 2) (by simp); simpa using this) hb (by rw [hfault]; intro h; rw [if_neg (by have := h1 (by omega); omega)]) fun h3 H6 k6 => hback 0 _ _ (by omega) ⟨2, by omega, rfl, by trivial, k6, fun _ => h1 (by omega), fun _ => h3⟩
    · have h1' := h1 (by omega)
      have h2' := h2 (by omega)
      obtain ⟨l1, c1⟩ := dFault_len h1'
      obtain ⟨l2, c2⟩ := dFault_len h2'
      have hb0 : applyFault op la ra lb rb = 0 := by rw [hfault, if_neg (by omega), h2']
      refine RunT.imp ?_ newManager_c
      rintro H6 m ⟨⟨F, hm, hF⟩, k6⟩
      have kk6 := kk5.trans k6
      have hz5 := kk5.size
      have hb15 := o15.lt
      have hb25 := o25.lt
      have hb35 := o35.lt
      refine Ld.o2 (o15.kp k6) sa ra rfl (RunT.imp ?_ (add_c ha (Kp.old kk6) hm (fun x h => by have := hF x h; omega) c1.of.1 c1.of.2.1 c1.of.2.2.1 l1 (by simp)))
      rintro H7 qa ⟨F7, ts7, af7, in7, rfl⟩
      have k57 : Kp H5 H7 := k6.fresh af7.keep fun x h => hF x h
      have kk7 := kk5.trans k57
      have hz7 := k57.size
      have hl7 := af7.len
      have hF7 : ∀ x, F7 x → H5.size ≤ x := fun x h => (af7.fresh x h).elim (hF x) fun h => by have := k6.size; omega
      refine Ld.o2 (o25.kp k57) sb rb rfl (RunT.imp ?_ (add_c hb (Kp.old kk7) af7.mgr (fun x h => by have := hF7 x h; omega) c2.of.1 c2.of.2.1 c2.of.2.2.1 l2 (by simp at hl7 ⊢; omega)))
      rintro H8 qb ⟨F8, ts8, af8, in8, rfl⟩
      have k58 : Kp H5 H8 := k57.fresh af8.keep fun x h => hF7 x h
      have hF8 : ∀ x, F8 x → H5.size ≤ x := fun x h => (af8.fresh x h).elim (hF7 x) fun h => by omega
      have hl8 := af8.len
      have in7' := in7.mono af8.pre
      refine ⟨Same2.mk (((o25.kp k6).all).trans ((o25.kp k57).all).symm), ?_⟩
      rw [← ref_mono in7 af8.pre]
      -- the end, once for all
      have fin : ∀ (N : Nat) (val : (Nat → Bool) → Bool) (H9 : AHeap) (q : Int), N ≤ 200000 → (∀ ρ, val ρ = opB op (dVal la ra ρ) (dVal lb rb ρ)) → OpRes H8 m F8 ts8 N val H9 q →
          Fn.solve_manager_result m q H9 fun H_26 (v_27 : AC) (v_28 : Int) (v_29 : Int) => Sto H_26 (.ptr (some (b3, 0))) [v_27, (.int .i64 v_28)] fun H_30 => Ld [.ac, .int .i64] H_30 (.ptr (some (b3, 0))) fun (r0_31 : AC) (r1_32 : Int) =>
            ERes H H_30 (applyFault op la ra lb rb) (fun ρ => opB op (dVal la ra ρ) (dVal lb rb ρ)) r0_31 r1_32 v_29 ∧ Kp H H_30 := by
        rintro N val H9 q hN hv ⟨F9, ts9, r, af9, in9, rfl, hev⟩
        have hl9 := af9.len
        have k59 : Kp H5 H9 := k58.fresh af9.keep fun x h => hF8 x h
        refine RunT.imp ?_ (result_c af9.mgr in9 (by simp at hl7; omega))
        rintro H10 (ns : AC) (root : Int) (err : Int) ⟨hres, k10⟩
        have hz9 := k59.size
        have kk10 := (kk5.trans k59).trans k10
        refine Sto.own ((o35.kp k59).kp k10) (Nat.le_refl 2) fun H11 o11 k11 hs11 => Ld.o2 o11 ns root rfl ⟨.inr ⟨hb0, r, af9.mgr.fin.ro in9, fun ρ => (hev ρ).trans (hv ρ), ?_⟩, kk10.fresh k11 fun y e => by have e' : y = b3 := e; omega⟩
        exact (hres.keep k11 fun y e => by have e' : y = b3 := e; omega).from (by have := kk5.size; omega)
      simp only [List.length_nil, Nat.zero_add] at hl7
      refine CondB.eq (fun h4 => ?_) fun h4 => CondB.eq (fun h5 => ?_) fun h5 => ?_
      · refine RunT.imp ?_ (and_c af8.mgr in7' in8 (by omega))
        intro H9 q hq
        exact fin 65535 _ H9 q (by omega) (fun ρ => by unfold opB; rw [if_pos h4]; rfl) hq
      · refine RunT.imp ?_ (or_c af8.mgr in7' in8 (by omega))
        intro H9 q hq
        exact fin 65535 _ H9 q (by omega) (fun ρ => by unfold opB; rw [if_neg h4, if_pos h5]; rfl) hq
      · refine RunT.imp ?_ (xor_c af8.mgr in7' in8 (by omega))
        intro H9 q hq
        exact fin 131070 _ H9 q (by omega) (fun ρ => by unfold opB; rw [if_neg h4, if_neg h5]; rfl) hq
  refine CondB.ne (fun h4 => CondB.ne (fun h5 => ?_) fun h5 => ?_) fun h4 => ?_
  · by_cases h6 : op = 6
    · have := good (fun h => h.2.2 h6)
      rw [show (op != 6) = false from by rw [h6]; rfl]
      exact this
    · rw [show (op != 6) = true from by simpa using h6]
      exact bad ⟨h4, h5, h6⟩
  · exact good (fun h => h.2.1 h5)
  · exact good (fun h => h.1 h4)
end Go.Proofs.Ytanaaabejeeakaa
end
section
/- Not; the law that Apply follows the formulas. -/
namespace Go.Proofs.Ytanaaabejeeakaa
open Go.AI Go.AI.DT

theorem Not_c {ra : Int} {sa : AC} {la : List NRow} {H : AHeap} (ha : SlR H sa 3 (nodeRows la)) :
    Fn.solve_Not sa ra H fun H' ns root err => ERes H H' (dFault la ra) (fun ρ => !dVal la ra ρ) ns root err ∧ Kp H H' := by
  refine solve_Not.run ?_
  unfold solve_Not.W
  refine New.own fun b1 H1 hb1 hs1 o1 k1 => New.own fun b3 H3 hb3 hs3 o3 k3 => Ld.o2 (o1.kp k3) sa ra rfl ?_
  have kk := k1.trans k3
  refine RunT.imp ?_ (CheckDiagram_c (ha.kp kk))
  rintro H4 (q : Int) ⟨rfl, k4⟩
  have kk4 := kk.trans k4
  have hz4 := kk4.size
  refine CondB.ne (fun hne => ?_) fun he => ?_
  · refine Sto.own (o3.kp k4) (Nat.le_refl 2) fun H5 o5 k5 hs5 => ?_
    exact Ld.o2 o5 (.sl none 0 0 (some 0)) (0 : Int) rfl ⟨.inl ⟨hne, rfl, rfl, SlR.nil _ _⟩, kk4.fresh k5 fun y e => by have e' : y = b3 := e; omega⟩
  · obtain ⟨l1, c1⟩ := dFault_len he
    have hb14 := ((o1.kp k3).kp k4).lt
    have hb34 := (o3.kp k4).lt
    refine RunT.imp ?_ newManager_c
    rintro H6 m ⟨⟨F, hm, hF⟩, k6⟩
    have kk6 := kk4.trans k6
    refine Ld.o2 (((o1.kp k3).kp k4).kp k6) sa ra rfl (RunT.imp ?_ (add_c ha (Kp.old kk6) hm (fun x h => by have := hF x h; omega) c1.of.1 c1.of.2.1 c1.of.2.2.1 l1 (by simp)))
    rintro H7 qa ⟨F7, ts7, af7, in7, rfl⟩
    have k47 : Kp H4 H7 := k6.fresh af7.keep fun x h => hF x h
    have hl7 := af7.len
    have hF7 : ∀ x, F7 x → H4.size ≤ x := fun x h => (af7.fresh x h).elim (hF x) fun h => by have := k6.size; omega
    simp only [List.length_nil, Nat.zero_add] at hl7
    refine RunT.imp ?_ (not_c af7.mgr in7 (by omega))
    rintro H9 q ⟨F9, ts9, r, af9, in9, rfl, hev⟩
    have hl9 := af9.len
    have k49 : Kp H4 H9 := k47.fresh af9.keep fun x h => hF7 x h
    refine RunT.imp ?_ (result_c af9.mgr in9 (by omega))
    rintro H10 (ns : AC) (root : Int) (err : Int) ⟨hres, k10⟩
    have hz9 := k49.size
    have kk10 := (kk4.trans k49).trans k10
    refine Sto.own (((o3.kp k4).kp k49).kp k10) (Nat.le_refl 2) fun H11 o11 k11 hs11 => Ld.o2 o11 ns root rfl ⟨.inr ⟨he, r, af9.mgr.fin.ro in9, hev, ?_⟩, kk10.fresh k11 fun y e => by have e' : y = b3 := e; omega⟩
    exact (hres.keep k11 fun y e => by have e' : y = b3 := e; omega).from (by omega)

/-- An answer without fault: its diagram is one that is taken, and has that function. -/
theorem ERes.diag {H0 H : AHeap} {bad : Int} {g : (Nat → Bool) → Bool} {ns : AC} {root err : Int} (h : ERes H0 H bad g ns root err) (he : err = 0) : bad = 0 ∧ ∃ l : List NRow, SlR H ns 3 (nodeRows l) ∧ dFault l root = 0 ∧ l.length ≤ 2000 ∧ ∀ ρ, dVal l root ρ = g ρ := by
  rcases h with ⟨a, b, _, _⟩ | ⟨a, x, b, c, d⟩
  · exact absurd (b.symm.trans he) a
  · rcases d.res with ⟨_, d2, _⟩ | ⟨d1, _, rfl, d4⟩
    · rw [d2] at he; cases he
    · have hcan : CanonD (rowsOf x) (ref (ser x []) x) := ⟨x, b, rfl, rfl⟩
      have hl : (rowsOf x).length ≤ 2000 := by rw [List.length_map]; exact d1
      refine ⟨a, _, d4, dFault_zero hl hcan, hl, fun ρ => ?_⟩
      unfold dVal
      rw [bld_rows (ser_seq x [] b Seq.nil), atR_ref (ser_in x [])]
      exact c ρ
theorem ERes.zero {H0 H : AHeap} {bad : Int} {g : (Nat → Bool) → Bool} {ns : AC} {root err : Int} (h : ERes H0 H bad g ns root err) (he : err = 0) : bad = 0 := (h.diag he).1

end Go.Proofs.Ytanaaabejeeakaa
end
section
/- The table of a diagram. -/
namespace Go.Proofs.Ytanaaabejeeakaa
open Go.AI Go.AI.DT

/-- A loop's turns, of which the inner ones also come to the next turn of the outer one. -/
theorem DiagramTable_c {s : AC} {x : DT} {H : AHeap} (hx : x.RO) (hs : SlR H s 3 (nodeRows (rowsOf x))) :
    Fn.fetterlockref6_DiagramTable s (ref (ser x []) x) H fun H' r => (∃ tb cap, r = .sl (some (tb, 0)) 1 65536 cap ∧ Own H' tb ((tabOf x.eval).map AC.bool) ∧ H.size ≤ tb) ∧ Kp H H' := by
  obtain ⟨st, hst⟩ : ∃ st, st = ser x [] := ⟨_, rfl⟩
  have hseq : Seq st := by rw [hst]; exact ser_seq x [] hx Seq.nil
  have hinx : In st x := by rw [hst]; exact ser_in x []
  have hs' : SlR H s 3 (nodeRows (st.map (row st))) := by rw [hst]; exact hs
  rw [← hst]
  refine fetterlockref6_DiagramTable.run ?_
  unfold fetterlockref6_DiagramTable.W
  obtain ⟨N, hN⟩ : ∃ N : Nat, N = 65536 := ⟨_, rfl⟩
  rw [show (65536 : Int) = (N : Int) from by omega, ← hN]
  refine New.own fun b H1 hb hs1 ho hkp => ?_
  refine MkS.own (n := N) (by omega) (by omega) fun tb H2 htb hs2 hot hkp2 => ?_
  unfold fetterlockref6_DiagramTable.l8
  refine LoopT.rule (fun m s0 H3 => ∃ (i : Nat) (cs : List AC), i ≤ N ∧ m = N - i ∧ s0 = (.ptr (some (b, 0)), .sl (some (tb, 0)) 1 N (some N), (i : Int), ()) ∧ Kp H H3 ∧ Own H3 b [s, .int .i64 (ref st x)] ∧ Own H3 tb cs ∧ cs.length = N ∧
    ∀ j, j < i → cs[j]? = some (.bool (x.eval (rho j)))) N ⟨0, _, by omega, by omega, rfl, hkp.trans hkp2, ho.kp hkp2, hot, by rw [List.length_replicate], fun j h => by omega⟩ ?_
  rintro m s0 H3 back ⟨i, cs, hi, rfl, rfl, hkp3, ho3, hot3, hcl, hall⟩ hback
  simp only [fetterlockref6_DiagramTable.b8]
  refine LenS.mk (CondB.dec (fun hlt => ?_) fun hge => ?_)
  · have hi' : i < 65536 := by omega
    refine FA.mk (Ld.oi ho3 rfl ?_)
    unfold fetterlockref6_DiagramTable.l21
    refine LoopT.rule (fun m s0 H4 => ∃ t : DT, m = t.sz ∧ s0 = (.ptr (some (b, 0)), .sl (some (tb, 0)) 1 N (some N), (i : Int), ref st t, ()) ∧ H4 = H3 ∧ In st t ∧ t.eval (rho i) = x.eval (rho i)) x.sz ⟨x, rfl, rfl, rfl, hinx, rfl⟩ ?_
    rintro m s0 H4 back2 ⟨t, rfl, rfl, rfl, hin, hev⟩ hback2
    simp only [fetterlockref6_DiagramTable.b21]
    refine CondB.dec (fun h0 => ?_) fun h0 => ?_
    · have h0' : 0 ≤ ref st t := h0
      cases t with
      | leaf c => exfalso; cases c <;> simp [ref] at h0'
      | nd v l h =>
        have hg := ref_get hin h0'
        obtain ⟨_, _, _, e0, inl, inh, hro⟩ := hseq.1.parts _ (List.mem_of_getElem? hg)
        cases e0
        have hv16 := hro.1
        have hrow : (nodeRows (st.map (row st)))[(ref st (nd v l h)).toNat]? = some (nodeCells ((v : Int), ref st l, ref st h)) := nodeRow_at (by rw [List.getElem?_map, hg]; rfl)
        refine FA.mk (Ld.oc ho3 rfl (IA.of (hs'.kp hkp3) h0' hrow fun b1 o1 hld => FA.mk (Ld.ei hld rfl ?_)))
        have e : IntKind.wrap .i64 (15 - (v : Int)) = ((15 - v : Nat) : Int) := (wrap64 (by omega) (by omega)).trans (by omega)
        refine GE0.mk ?_ ?_
        · rw [e]; omega
        rw [e, bit_nat (by omega) (by omega)]
        have hrho : rho i v = i.testBit (15 - v) := rfl
        have hsz : (nd v l h).sz = l.sz + h.sz + 1 := rfl
        refine CondB.mk (fun hc => ?_) fun hc => ?_
        · have hbit : i.testBit (15 - v) = true := by
            cases hh : i.testBit (15 - v) with
            | true => rfl
            | false => rw [hh] at hc; simp at hc
          refine FA.mk (Ld.oc ho3 rfl (IA.of (hs'.kp hkp3) h0' hrow fun b1 o1 hld => FA.mk (Ld.ei hld rfl ?_)))
          refine hback2 h.sz _ _ (by omega) ⟨h, rfl, rfl, rfl, inh, ?_⟩
          rw [← hev]
          simp only [eval]
          rw [hrho, hbit, if_pos rfl]
        · have hbit : i.testBit (15 - v) = false := by
            cases hh : i.testBit (15 - v) with
            | false => rfl
            | true => rw [hh] at hc; simp at hc
          refine FA.mk (Ld.oc ho3 rfl (IA.of (hs'.kp hkp3) h0' hrow fun b1 o1 hld => FA.mk (Ld.ei hld rfl ?_)))
          refine hback2 l.sz _ _ (by omega) ⟨l, rfl, rfl, rfl, inl, ?_⟩
          rw [← hev]
          simp only [eval]
          rw [hrho, hbit]
          simp
    · have h0' : ref st t < 0 := by have : ¬ ref st t ≥ 0 := h0; omega
      obtain ⟨c, rfl⟩ := ref_leaf.1 h0'
      refine IA.mk (by omega) (by omega) ?_
      have hb2 : b < tb := by omega
      refine Sto.cell hot3 (by rw [hcl]; omega) fun H6 hot6 hk6 hs6 => ?_
      have hbl := ho3.lt
      refine hback (N - (i + 1)) _ _ (by omega) ⟨i + 1, _, by omega, rfl, ?_, ?_, ho3.keep hk6 (by omega), hot6, by rw [List.length_set, hcl], fun j hj => ?_⟩
      · exact tc rfl (tc rfl (tc ((wrap64 (by omega) (by omega)).trans (by omega)) rfl))
      · exact hkp3.fresh hk6 fun y e => by have e' : y = tb := e; have := hkp.size; omega
      · simp only [Int.toNat_natCast, Nat.mul_one, Nat.zero_add]
        by_cases hji : j = i
        · subst hji
          rw [List.getElem?_set_self (by omega)]
          congr 2
          rw [← hev]
          cases c <;> rfl
        · rw [List.getElem?_set_ne (by omega)]
          exact hall j (by omega)
  · have : i = N := by omega
    subst this
    refine ⟨⟨tb, some i, ?_, ?_, ?_⟩, hkp3⟩
    · rfl
    · have e : cs = (tabOf x.eval).map AC.bool := by
        unfold tabOf
        rw [← hN]
        apply List.ext_getElem?
        intro j
        by_cases hj : j < i
        · rw [hall j hj, List.getElem?_map, List.getElem?_map, List.getElem?_range hj]; rfl
        · rw [List.getElem?_eq_none (by omega), List.getElem?_eq_none (by rw [List.length_map, List.length_map, List.length_range]; omega)]
      rw [← e]; exact hot3
    · have := hkp.size; omega
end Go.Proofs.Ytanaaabejeeakaa
end
section
/- Printed by a program: functions and what must hold ahead of them. -/
namespace Go.Proofs.Ytanaaabejeeakaa
open Go.AI
set_option maxRecDepth 100000
set_option maxHeartbeats 2000000
set_option linter.unusedVariables false
attribute [local irreducible] Ld Sto New NewS NewM NN NZ GE0 FA IA IAP LenS Slc App Cpy Clr MkS Fnc NilQ IxS Look MSet Run CV RunT CVT LoopT Same1 Same2 wpC wpOs wpT wpO wpOp

def fetterlockref6_DiagramFault.c124 : RC := (.seq (.seq (.ops [.put 146 (.mov (.tm 9)),
    .put 147 (.mov (.tm 8)),
    .put 148 (.lens (.tm 147)),
    .put 149 (.cm .lt (.tm 146) (.tm 148))]) (.cond 149 .skip (.exit 6))) (.seq (.block 7 (.seq (.ops [.put 152 (.mov (.tm 8)),
    .put 153 (.mov (.tm 9)),
    .put 154 (.ia 1 (.tm 152) (.tm 153)),
    .put 155 (.ld false [.int .i64] (.tm 154)),
    .put 156 (.mov (.tm 9)),
    .put 157 (.cm .ne (.tm 155) (.tm 156))]) (.cond 157 (.seq (.ops [.put 2 (.mov (.ct (.one (.int .i64 2))))]) .ret) .skip))) (.ops [.put 150 (.mov (.tm 9)),
    .put 151 (.ar .add (.tm 150) (.ct (.one (.int .i64 1)))),
    .put 9 (.mov (.tm 151))])))
def fetterlockref6_DiagramFault.c92 : RC := (.cond 128 (.seq (.ops [.put 2 (.mov (.ct (.one (.int .i64 2))))]) .ret) .skip)
def fetterlockref6_DiagramFault.c68 : RC := (.seq (.seq (.ops [.put 105 (.mov (.tm 7)),
    .put 106 (.mov (.tm 5)),
    .put 107 (.cm .lt (.tm 105) (.tm 106))]) (.cond 107 .skip (.exit 4))) (.seq (.block 5 (.seq (.ops [.put 110 (.fa 0 (.tm 1)),
    .put 111 (.ld false [.ac] (.tm 110)),
    .put 112 (.mov (.tm 7)),
    .put 113 (.ia 3 (.tm 111) (.tm 112)),
    .put 114 (.ld true [.int .i64, .int .i64, .int .i64] (.tm 113)),
    .put 115 (.ld true [.int .i64, .int .i64, .int .i64] (.tm 6)),
    .put 116 (.eqa false 3 (.tm 114) (.tm 115))]) (.cond 116 (.seq (.ops [.put 2 (.mov (.ct (.one (.int .i64 2))))]) .ret) .skip))) (.ops [.put 108 (.mov (.tm 7)),
    .put 109 (.ar .add (.tm 108) (.ct (.one (.int .i64 1)))),
    .put 7 (.mov (.tm 109))])))
def fetterlockref6_DiagramFault.c59 : RC := (.cond 104 (.seq (.ops [.put 2 (.mov (.ct (.one (.int .i64 2))))]) .ret) .skip)
def fetterlockref6_DiagramFault.c46 : RC := (.seq (.seq (.ops [.put 54 (.mov (.tm 5)),
    .put 55 (.fa 0 (.tm 1)),
    .put 56 (.ld false [.ac] (.tm 55)),
    .put 57 (.lens (.tm 56)),
    .put 58 (.cm .lt (.tm 54) (.tm 57))]) (.cond 58 .skip (.exit 2))) (.seq (.block 3 (.seq (.ops [.put 61 (.fa 0 (.tm 1)),
    .put 62 (.ld false [.ac] (.tm 61)),
    .put 63 (.mov (.tm 5)),
    .put 64 (.ia 3 (.tm 62) (.tm 63)),
    .put 65 (.ld true [.int .i64, .int .i64, .int .i64] (.tm 64)),
    .put 6 (.new 77 [(.int .i64 0), (.int .i64 0), (.int .i64 0)]),
    .run (.st 3 (.tm 6) (.tm 65))]) (.seq (.seq (.ops [.put 66 (.fa 1 (.tm 6)),
    .put 67 (.ld false [.int .i64] (.tm 66)),
    .put 68 (.fa 2 (.tm 6)),
    .put 69 (.ld false [.int .i64] (.tm 68)),
    .put 70 (.cm .eq (.tm 67) (.tm 69)),
    .put 71 (.mov (.tm 70)),
    .gput 72 71 false (.fa 1 (.tm 6)),
    .gput 73 71 false (.ld false [.int .i64] (.tm 72)),
    .gput 74 71 false (.cm .ge (.tm 73) (.ct (.one (.int .i64 0)))),
    .gput 75 71 false (.mov (.tm 74)),
    .gput 76 75 true (.fa 0 (.tm 1)),
    .gput 77 75 true (.ld false [.ac] (.tm 76)),
    .gput 78 75 true (.fa 1 (.tm 6)),
    .gput 79 75 true (.ld false [.int .i64] (.tm 78)),
    .gput 80 75 true (.ia 3 (.tm 77) (.tm 79)),
    .gput 81 75 true (.fa 0 (.tm 80)),
    .gput 82 75 true (.ld false [.int .i64] (.tm 81)),
    .gput 83 75 true (.fa 0 (.tm 6)),
    .gput 84 75 true (.ld false [.int .i64] (.tm 83)),
    .gput 85 75 true (.cm .le (.tm 82) (.tm 84)),
    .gput 86 71 false (.pick (.tm 75) (.tm 85) (.ct (.one (.bool false)))),
    .put 87 (.pick (.tm 71) (.ct (.one (.bool true))) (.tm 86)),
    .put 88 (.mov (.tm 87)),
    .gput 89 88 false (.fa 2 (.tm 6)),
    .gput 90 88 false (.ld false [.int .i64] (.tm 89)),
    .gput 91 88 false (.cm .ge (.tm 90) (.ct (.one (.int .i64 0)))),
    .gput 92 88 false (.mov (.tm 91)),
    .gput 93 92 true (.fa 0 (.tm 1)),
    .gput 94 92 true (.ld false [.ac] (.tm 93)),
    .gput 95 92 true (.fa 2 (.tm 6)),
    .gput 96 92 true (.ld false [.int .i64] (.tm 95)),
    .gput 97 92 true (.ia 3 (.tm 94) (.tm 96)),
    .gput 98 92 true (.fa 0 (.tm 97)),
    .gput 99 92 true (.ld false [.int .i64] (.tm 98)),
    .gput 100 92 true (.fa 0 (.tm 6)),
    .gput 101 92 true (.ld false [.int .i64] (.tm 100)),
    .gput 102 92 true (.cm .le (.tm 99) (.tm 101)),
    .gput 103 88 false (.pick (.tm 92) (.tm 102) (.ct (.one (.bool false)))),
    .put 104 (.pick (.tm 88) (.ct (.one (.bool true))) (.tm 103))]) fetterlockref6_DiagramFault.c59) (.seq (.ops [.put 7 (.mov (.ct (.one (.int .i64 0))))]) (.block 4 (.loop fetterlockref6_DiagramFault.c68)))))) (.ops [.put 59 (.mov (.tm 5)),
    .put 60 (.ar .add (.tm 59) (.ct (.one (.int .i64 1)))),
    .put 5 (.mov (.tm 60))])))
def fetterlockref6_DiagramFault.c35 : RC := (.cond 53 (.seq (.ops [.put 2 (.mov (.ct (.one (.int .i64 2))))]) .ret) .skip)
def fetterlockref6_DiagramFault.c28 : RC := (.cond 33 (.seq (.ops [.put 2 (.mov (.ct (.one (.int .i64 1))))]) .ret) .skip)
def fetterlockref6_DiagramFault.c15 : RC := (.seq (.seq (.ops [.put 14 (.mov (.tm 3)),
    .put 15 (.fa 0 (.tm 1)),
    .put 16 (.ld false [.ac] (.tm 15)),
    .put 17 (.lens (.tm 16)),
    .put 18 (.cm .lt (.tm 14) (.tm 17))]) (.cond 18 .skip (.exit 0))) (.seq (.block 1 (.seq (.ops [.put 21 (.fa 0 (.tm 1)),
    .put 22 (.ld false [.ac] (.tm 21)),
    .put 23 (.mov (.tm 3)),
    .put 24 (.ia 3 (.tm 22) (.tm 23)),
    .put 25 (.ld true [.int .i64, .int .i64, .int .i64] (.tm 24)),
    .put 4 (.new 77 [(.int .i64 0), (.int .i64 0), (.int .i64 0)]),
    .run (.st 3 (.tm 4) (.tm 25))]) (.seq (.seq (.ops [.put 26 (.fa 0 (.tm 4)),
    .put 27 (.ld false [.int .i64] (.tm 26)),
    .put 28 (.cm .lt (.tm 27) (.ct (.one (.int .i64 0)))),
    .put 29 (.mov (.tm 28)),
    .gput 30 29 false (.fa 0 (.tm 4)),
    .gput 31 29 false (.ld false [.int .i64] (.tm 30)),
    .gput 32 29 false (.cm .ge (.tm 31) (.ct (.one (.int .i64 16)))),
    .put 33 (.pick (.tm 29) (.ct (.one (.bool true))) (.tm 32))]) fetterlockref6_DiagramFault.c28) (.seq (.ops [.put 34 (.fa 1 (.tm 4)),
    .put 35 (.ld false [.int .i64] (.tm 34)),
    .put 36 (.cm .lt (.tm 35) (.ct (.one (.int .i64 (-2))))),
    .put 37 (.mov (.tm 36)),
    .gput 38 37 false (.fa 1 (.tm 4)),
    .gput 39 37 false (.ld false [.int .i64] (.tm 38)),
    .gput 40 37 false (.mov (.tm 3)),
    .gput 41 37 false (.cm .ge (.tm 39) (.tm 40)),
    .put 42 (.pick (.tm 37) (.ct (.one (.bool true))) (.tm 41)),
    .put 43 (.mov (.tm 42)),
    .gput 44 43 false (.fa 2 (.tm 4)),
    .gput 45 43 false (.ld false [.int .i64] (.tm 44)),
    .gput 46 43 false (.cm .lt (.tm 45) (.ct (.one (.int .i64 (-2))))),
    .put 47 (.pick (.tm 43) (.ct (.one (.bool true))) (.tm 46)),
    .put 48 (.mov (.tm 47)),
    .gput 49 48 false (.fa 2 (.tm 4)),
    .gput 50 48 false (.ld false [.int .i64] (.tm 49)),
    .gput 51 48 false (.mov (.tm 3)),
    .gput 52 48 false (.cm .ge (.tm 50) (.tm 51)),
    .put 53 (.pick (.tm 48) (.ct (.one (.bool true))) (.tm 52))]) fetterlockref6_DiagramFault.c35)))) (.ops [.put 19 (.mov (.tm 3)),
    .put 20 (.ar .add (.tm 19) (.ct (.one (.int .i64 1)))),
    .put 3 (.mov (.tm 20))])))
def fetterlockref6_DiagramFault.c : RC := (.seq (.ops [.put 1 (.box 27 (.tm 0)),
    .put 2 (.mov (.ct (.one (.int .i64 0))))]) (.seq (.seq (.ops [.put 10 (.fa 0 (.tm 1)),
    .put 11 (.ld false [.ac] (.tm 10)),
    .put 12 (.lens (.tm 11)),
    .put 13 (.cm .gt (.tm 12) (.ct (.one (.int .i64 2000))))]) (.cond 13 (.seq (.ops [.put 2 (.mov (.ct (.one (.int .i64 3))))]) .ret) .skip)) (.seq (.seq (.ops [.put 3 (.mov (.ct (.one (.int .i64 0))))]) (.block 0 (.loop fetterlockref6_DiagramFault.c15))) (.seq (.seq (.ops [.put 5 (.mov (.ct (.one (.int .i64 0))))]) (.block 2 (.loop fetterlockref6_DiagramFault.c46))) (.seq (.seq (.ops [.put 117 (.fa 0 (.tm 1)),
    .put 118 (.ld false [.ac] (.tm 117)),
    .put 119 (.lens (.tm 118)),
    .put 120 (.cm .eq (.tm 119) (.ct (.one (.int .i64 0))))]) (.cond 120 (.seq (.seq (.ops [.put 121 (.fa 1 (.tm 1)),
    .put 122 (.ld false [.int .i64] (.tm 121)),
    .put 123 (.cm .ne (.tm 122) (.ct (.one (.int .i64 (-1))))),
    .put 124 (.mov (.tm 123)),
    .gput 125 124 true (.fa 1 (.tm 1)),
    .gput 126 124 true (.ld false [.int .i64] (.tm 125)),
    .gput 127 124 true (.cm .ne (.tm 126) (.ct (.one (.int .i64 (-2))))),
    .put 128 (.pick (.tm 124) (.tm 127) (.ct (.one (.bool false))))]) fetterlockref6_DiagramFault.c92) (.seq (.ops [.put 2 (.mov (.ct (.one (.int .i64 0))))]) .ret)) .skip)) (.seq (.seq (.ops [.put 129 (.fa 1 (.tm 1)),
    .put 130 (.ld false [.int .i64] (.tm 129)),
    .put 131 (.fa 0 (.tm 1)),
    .put 132 (.ld false [.ac] (.tm 131)),
    .put 133 (.lens (.tm 132)),
    .put 134 (.ar .sub (.tm 133) (.ct (.one (.int .i64 1)))),
    .put 135 (.cm .ne (.tm 130) (.tm 134))]) (.cond 135 (.seq (.ops [.put 2 (.mov (.ct (.one (.int .i64 2))))]) .ret) .skip)) (.seq (.ops [.put 136 (.ld true [.ac, .int .i64] (.tm 1)),
    .put 137 (.fa 1 (.tm 1)),
    .put 138 (.ld false [.int .i64] (.tm 137)),
    .put 139 (.call 61 [(.tm 136), (.tm 138), (.ct (.one (.sl none 0 0 (some 0))))]),
    .put 8 (.mov (.tm 139))]) (.seq (.seq (.ops [.put 140 (.mov (.tm 8)),
    .put 141 (.lens (.tm 140)),
    .put 142 (.fa 0 (.tm 1)),
    .put 143 (.ld false [.ac] (.tm 142)),
    .put 144 (.lens (.tm 143)),
    .put 145 (.cm .ne (.tm 141) (.tm 144))]) (.cond 145 (.seq (.ops [.put 2 (.mov (.ct (.one (.int .i64 2))))]) .ret) .skip)) (.seq (.seq (.ops [.put 9 (.mov (.ct (.one (.int .i64 0))))]) (.block 6 (.loop fetterlockref6_DiagramFault.c124))) (.seq (.ops [.put 2 (.mov (.ct (.one (.int .i64 0))))]) .ret))))))))))
abbrev fetterlockref6_DiagramFault.KQ (Q : AHeap → Int → Prop) : AV → AHeap → Prop := fun v H => ∃ xs : Tup (flat [(false, [.int .i64])]), v = joinR (splitP [(false, [.int .i64])] (cellsOf (flat [(false, [.int .i64])]) xs)) ∧ app (flat [(false, [.int .i64])]) (Q H) xs
abbrev fetterlockref6_DiagramFault.K (Q : AHeap → Int → Prop) : Ex → Env → AHeap → Prop := kTop [.tm 2] (fetterlockref6_DiagramFault.KQ Q)
abbrev fetterlockref6_DiagramFault.k11 (Q : AHeap → Int → Prop) : Ex → Env → AHeap → Prop := kSeq (fun t H => wpC Try.prog (.seq (.seq (.ops [.put 5 (.mov (.ct (.one (.int .i64 0))))]) (.block 2 (.loop fetterlockref6_DiagramFault.c46))) (.seq (.seq (.ops [.put 117 (.fa 0 (.tm 1)),
    .put 118 (.ld false [.ac] (.tm 117)),
    .put 119 (.lens (.tm 118)),
    .put 120 (.cm .eq (.tm 119) (.ct (.one (.int .i64 0))))]) (.cond 120 (.seq (.seq (.ops [.put 121 (.fa 1 (.tm 1)),
    .put 122 (.ld false [.int .i64] (.tm 121)),
    .put 123 (.cm .ne (.tm 122) (.ct (.one (.int .i64 (-1))))),
    .put 124 (.mov (.tm 123)),
    .gput 125 124 true (.fa 1 (.tm 1)),
    .gput 126 124 true (.ld false [.int .i64] (.tm 125)),
    .gput 127 124 true (.cm .ne (.tm 126) (.ct (.one (.int .i64 (-2))))),
    .put 128 (.pick (.tm 124) (.tm 127) (.ct (.one (.bool false))))]) fetterlockref6_DiagramFault.c92) (.seq (.ops [.put 2 (.mov (.ct (.one (.int .i64 0))))]) .ret)) .skip)) (.seq (.seq (.ops [.put 129 (.fa 1 (.tm 1)),
    .put 130 (.ld false [.int .i64] (.tm 129)),
    .put 131 (.fa 0 (.tm 1)),
    .put 132 (.ld false [.ac] (.tm 131)),
    .put 133 (.lens (.tm 132)),
    .put 134 (.ar .sub (.tm 133) (.ct (.one (.int .i64 1)))),
    .put 135 (.cm .ne (.tm 130) (.tm 134))]) (.cond 135 (.seq (.ops [.put 2 (.mov (.ct (.one (.int .i64 2))))]) .ret) .skip)) (.seq (.ops [.put 136 (.ld true [.ac, .int .i64] (.tm 1)),
    .put 137 (.fa 1 (.tm 1)),
    .put 138 (.ld false [.int .i64] (.tm 137)),
    .put 139 (.call 61 [(.tm 136), (.tm 138), (.ct (.one (.sl none 0 0 (some 0))))]),
    .put 8 (.mov (.tm 139))]) (.seq (.seq (.ops [.put 140 (.mov (.tm 8)),
    .put 141 (.lens (.tm 140)),
    .put 142 (.fa 0 (.tm 1)),
    .put 143 (.ld false [.ac] (.tm 142)),
    .put 144 (.lens (.tm 143)),
    .put 145 (.cm .ne (.tm 141) (.tm 144))]) (.cond 145 (.seq (.ops [.put 2 (.mov (.ct (.one (.int .i64 2))))]) .ret) .skip)) (.seq (.seq (.ops [.put 9 (.mov (.ct (.one (.int .i64 0))))]) (.block 6 (.loop fetterlockref6_DiagramFault.c124))) (.seq (.ops [.put 2 (.mov (.ct (.one (.int .i64 0))))]) .ret))))))) t H (fetterlockref6_DiagramFault.K Q)) (fetterlockref6_DiagramFault.K Q)
abbrev fetterlockref6_DiagramFault.k22 (Q : AHeap → Int → Prop) (X14 : Env → AHeap → Prop) : Ex → Env → AHeap → Prop := kSeq (fun t H => wpC Try.prog (.ops [.put 19 (.mov (.tm 3)),
    .put 20 (.ar .add (.tm 19) (.ct (.one (.int .i64 1)))),
    .put 3 (.mov (.tm 20))]) t H (kSeq X14 (kBlk 0 (fetterlockref6_DiagramFault.k11 Q)))) (kSeq X14 (kBlk 0 (fetterlockref6_DiagramFault.k11 Q)))
abbrev fetterlockref6_DiagramFault.k26 (Q : AHeap → Int → Prop) (X14 : Env → AHeap → Prop) : Ex → Env → AHeap → Prop := kSeq (fun t H => wpC Try.prog (.seq (.ops [.put 34 (.fa 1 (.tm 4)),
    .put 35 (.ld false [.int .i64] (.tm 34)),
    .put 36 (.cm .lt (.tm 35) (.ct (.one (.int .i64 (-2))))),
    .put 37 (.mov (.tm 36)),
    .gput 38 37 false (.fa 1 (.tm 4)),
    .gput 39 37 false (.ld false [.int .i64] (.tm 38)),
    .gput 40 37 false (.mov (.tm 3)),
    .gput 41 37 false (.cm .ge (.tm 39) (.tm 40)),
    .put 42 (.pick (.tm 37) (.ct (.one (.bool true))) (.tm 41)),
    .put 43 (.mov (.tm 42)),
    .gput 44 43 false (.fa 2 (.tm 4)),
    .gput 45 43 false (.ld false [.int .i64] (.tm 44)),
    .gput 46 43 false (.cm .lt (.tm 45) (.ct (.one (.int .i64 (-2))))),
    .put 47 (.pick (.tm 43) (.ct (.one (.bool true))) (.tm 46)),
    .put 48 (.mov (.tm 47)),
    .gput 49 48 false (.fa 2 (.tm 4)),
    .gput 50 48 false (.ld false [.int .i64] (.tm 49)),
    .gput 51 48 false (.mov (.tm 3)),
    .gput 52 48 false (.cm .ge (.tm 50) (.tm 51)),
    .put 53 (.pick (.tm 48) (.ct (.one (.bool true))) (.tm 52))]) fetterlockref6_DiagramFault.c35) t H (kBlk 1 (fetterlockref6_DiagramFault.k22 Q X14))) (kBlk 1 (fetterlockref6_DiagramFault.k22 Q X14))
abbrev fetterlockref6_DiagramFault.k42 (Q : AHeap → Int → Prop) : Ex → Env → AHeap → Prop := kSeq (fun t H => wpC Try.prog (.seq (.seq (.ops [.put 117 (.fa 0 (.tm 1)),
    .put 118 (.ld false [.ac] (.tm 117)),
    .put 119 (.lens (.tm 118)),
    .put 120 (.cm .eq (.tm 119) (.ct (.one (.int .i64 0))))]) (.cond 120 (.seq (.seq (.ops [.put 121 (.fa 1 (.tm 1)),
    .put 122 (.ld false [.int .i64] (.tm 121)),
    .put 123 (.cm .ne (.tm 122) (.ct (.one (.int .i64 (-1))))),
    .put 124 (.mov (.tm 123)),
    .gput 125 124 true (.fa 1 (.tm 1)),
    .gput 126 124 true (.ld false [.int .i64] (.tm 125)),
    .gput 127 124 true (.cm .ne (.tm 126) (.ct (.one (.int .i64 (-2))))),
    .put 128 (.pick (.tm 124) (.tm 127) (.ct (.one (.bool false))))]) fetterlockref6_DiagramFault.c92) (.seq (.ops [.put 2 (.mov (.ct (.one (.int .i64 0))))]) .ret)) .skip)) (.seq (.seq (.ops [.put 129 (.fa 1 (.tm 1)),
    .put 130 (.ld false [.int .i64] (.tm 129)),
    .put 131 (.fa 0 (.tm 1)),
    .put 132 (.ld false [.ac] (.tm 131)),
    .put 133 (.lens (.tm 132)),
    .put 134 (.ar .sub (.tm 133) (.ct (.one (.int .i64 1)))),
    .put 135 (.cm .ne (.tm 130) (.tm 134))]) (.cond 135 (.seq (.ops [.put 2 (.mov (.ct (.one (.int .i64 2))))]) .ret) .skip)) (.seq (.ops [.put 136 (.ld true [.ac, .int .i64] (.tm 1)),
    .put 137 (.fa 1 (.tm 1)),
    .put 138 (.ld false [.int .i64] (.tm 137)),
    .put 139 (.call 61 [(.tm 136), (.tm 138), (.ct (.one (.sl none 0 0 (some 0))))]),
    .put 8 (.mov (.tm 139))]) (.seq (.seq (.ops [.put 140 (.mov (.tm 8)),
    .put 141 (.lens (.tm 140)),
    .put 142 (.fa 0 (.tm 1)),
    .put 143 (.ld false [.ac] (.tm 142)),
    .put 144 (.lens (.tm 143)),
    .put 145 (.cm .ne (.tm 141) (.tm 144))]) (.cond 145 (.seq (.ops [.put 2 (.mov (.ct (.one (.int .i64 2))))]) .ret) .skip)) (.seq (.seq (.ops [.put 9 (.mov (.ct (.one (.int .i64 0))))]) (.block 6 (.loop fetterlockref6_DiagramFault.c124))) (.seq (.ops [.put 2 (.mov (.ct (.one (.int .i64 0))))]) .ret)))))) t H (fetterlockref6_DiagramFault.K Q)) (fetterlockref6_DiagramFault.K Q)
abbrev fetterlockref6_DiagramFault.k53 (Q : AHeap → Int → Prop) (X45 : Env → AHeap → Prop) : Ex → Env → AHeap → Prop := kSeq (fun t H => wpC Try.prog (.ops [.put 59 (.mov (.tm 5)),
    .put 60 (.ar .add (.tm 59) (.ct (.one (.int .i64 1)))),
    .put 5 (.mov (.tm 60))]) t H (kSeq X45 (kBlk 2 (fetterlockref6_DiagramFault.k42 Q)))) (kSeq X45 (kBlk 2 (fetterlockref6_DiagramFault.k42 Q)))
abbrev fetterlockref6_DiagramFault.k57 (Q : AHeap → Int → Prop) (X45 : Env → AHeap → Prop) : Ex → Env → AHeap → Prop := kSeq (fun t H => wpC Try.prog (.seq (.ops [.put 7 (.mov (.ct (.one (.int .i64 0))))]) (.block 4 (.loop fetterlockref6_DiagramFault.c68))) t H (kBlk 3 (fetterlockref6_DiagramFault.k53 Q X45))) (kBlk 3 (fetterlockref6_DiagramFault.k53 Q X45))
abbrev fetterlockref6_DiagramFault.k86 (Q : AHeap → Int → Prop) : Ex → Env → AHeap → Prop := kSeq (fun t H => wpC Try.prog (.seq (.seq (.ops [.put 129 (.fa 1 (.tm 1)),
    .put 130 (.ld false [.int .i64] (.tm 129)),
    .put 131 (.fa 0 (.tm 1)),
    .put 132 (.ld false [.ac] (.tm 131)),
    .put 133 (.lens (.tm 132)),
    .put 134 (.ar .sub (.tm 133) (.ct (.one (.int .i64 1)))),
    .put 135 (.cm .ne (.tm 130) (.tm 134))]) (.cond 135 (.seq (.ops [.put 2 (.mov (.ct (.one (.int .i64 2))))]) .ret) .skip)) (.seq (.ops [.put 136 (.ld true [.ac, .int .i64] (.tm 1)),
    .put 137 (.fa 1 (.tm 1)),
    .put 138 (.ld false [.int .i64] (.tm 137)),
    .put 139 (.call 61 [(.tm 136), (.tm 138), (.ct (.one (.sl none 0 0 (some 0))))]),
    .put 8 (.mov (.tm 139))]) (.seq (.seq (.ops [.put 140 (.mov (.tm 8)),
    .put 141 (.lens (.tm 140)),
    .put 142 (.fa 0 (.tm 1)),
    .put 143 (.ld false [.ac] (.tm 142)),
    .put 144 (.lens (.tm 143)),
    .put 145 (.cm .ne (.tm 141) (.tm 144))]) (.cond 145 (.seq (.ops [.put 2 (.mov (.ct (.one (.int .i64 2))))]) .ret) .skip)) (.seq (.seq (.ops [.put 9 (.mov (.ct (.one (.int .i64 0))))]) (.block 6 (.loop fetterlockref6_DiagramFault.c124))) (.seq (.ops [.put 2 (.mov (.ct (.one (.int .i64 0))))]) .ret))))) t H (fetterlockref6_DiagramFault.K Q)) (fetterlockref6_DiagramFault.K Q)
abbrev fetterlockref6_DiagramFault.k90 (Q : AHeap → Int → Prop) : Ex → Env → AHeap → Prop := kSeq (fun t H => wpC Try.prog (.seq (.ops [.put 2 (.mov (.ct (.one (.int .i64 0))))]) .ret) t H (fetterlockref6_DiagramFault.k86 Q)) (fetterlockref6_DiagramFault.k86 Q)
abbrev fetterlockref6_DiagramFault.k120 (Q : AHeap → Int → Prop) : Ex → Env → AHeap → Prop := kSeq (fun t H => wpC Try.prog (.seq (.ops [.put 2 (.mov (.ct (.one (.int .i64 0))))]) .ret) t H (fetterlockref6_DiagramFault.K Q)) (fetterlockref6_DiagramFault.K Q)
def fetterlockref6_DiagramFault.R123 (s : Tup [.ac, .int .i64]) (t : Env) : Prop := t 8 = (.one (s.1)) ∧ t 9 = (.one (.int .i64 (s.2.1))) ∧ True
def fetterlockref6_DiagramFault.R67 (s : Tup [.ac, .int .i64, .ac, .int .i64]) (t : Env) : Prop := t 1 = (.one (s.1)) ∧ t 5 = (.one (.int .i64 (s.2.1))) ∧ t 6 = (.one (s.2.2.1)) ∧ t 7 = (.one (.int .i64 (s.2.2.2.1))) ∧ True
def fetterlockref6_DiagramFault.R45 (s : Tup [.ac, .int .i64]) (t : Env) : Prop := t 1 = (.one (s.1)) ∧ t 5 = (.one (.int .i64 (s.2.1))) ∧ True
def fetterlockref6_DiagramFault.R14 (s : Tup [.ac, .int .i64]) (t : Env) : Prop := t 1 = (.one (s.1)) ∧ t 3 = (.one (.int .i64 (s.2.1))) ∧ True
def fetterlockref6_DiagramFault.b123 (Q : AHeap → Int → Prop) (Y123 : Tup [.ac, .int .i64] → AHeap → Prop) (x8 : AC) (x9 : Int) (H : AHeap) : Prop :=
  LenS x8 fun n_1 =>
  CondB (decide (x9 < n_1))
    (IA 1 x8 x9 fun q_2 =>
    Ld [.int .i64] H q_2 fun (v_3 : Int) =>
    CondB (v_3 != x9)
      (Q H 2)
      (Y123 (x8, ((IntKind.wrap .i64 (x9 + 1)) : Int), ()) H))
    (Q H 0)
def fetterlockref6_DiagramFault.l123 (Q : AHeap → Int → Prop) (x8 : AC) (x9 : Int) (H : AHeap) : Prop := LoopT (Tup [.ac, .int .i64]) (fun Y s H => fetterlockref6_DiagramFault.b123 Q Y (s.1) (s.2.1) H) (x8, x9, ()) H
def fetterlockref6_DiagramFault.p92 (Q : AHeap → Int → Prop) (x128 : Bool) (H : AHeap) : Prop :=
  CondB x128
    (Q H 2)
    (Q H 0)
def fetterlockref6_DiagramFault.b67 (Q : AHeap → Int → Prop) (Y45 : Tup [.ac, .int .i64] → AHeap → Prop) (Y67 : Tup [.ac, .int .i64, .ac, .int .i64] → AHeap → Prop) (x1 : AC) (x5 : Int) (x6 : AC) (x7 : Int) (H : AHeap) : Prop :=
  CondB (decide (x7 < x5))
    (FA 0 x1 fun q_1 =>
    Ld [.ac] H q_1 fun (v_2 : AC) =>
    IA 3 v_2 x7 fun q_3 =>
    Ld [.int .i64, .int .i64, .int .i64] H q_3 fun (v_4 : Int) (v_5 : Int) (v_6 : Int) =>
    Ld [.int .i64, .int .i64, .int .i64] H x6 fun (v_7 : Int) (v_8 : Int) (v_9 : Int) =>
    CondB (decide (([v_4, v_5, v_6] : List Int) = ([v_7, v_8, v_9] : List Int)))
      (Q H 2)
      (Y67 (x1, (x5 : Int), x6, ((IntKind.wrap .i64 (x7 + 1)) : Int), ()) H))
    (Y45 (x1, ((IntKind.wrap .i64 (x5 + 1)) : Int), ()) H)
def fetterlockref6_DiagramFault.l67 (Q : AHeap → Int → Prop) (Y45 : Tup [.ac, .int .i64] → AHeap → Prop) (x1 : AC) (x5 : Int) (x6 : AC) (x7 : Int) (H : AHeap) : Prop := LoopT (Tup [.ac, .int .i64, .ac, .int .i64]) (fun Y s H => fetterlockref6_DiagramFault.b67 Q Y45 Y (s.1) (s.2.1) (s.2.2.1) (s.2.2.2.1) H) (x1, x5, x6, x7, ()) H
def fetterlockref6_DiagramFault.p59 (Q : AHeap → Int → Prop) (Y45 : Tup [.ac, .int .i64] → AHeap → Prop) (x1 : AC) (x5 : Int) (x6 : AC) (x104 : Bool) (H : AHeap) : Prop :=
  CondB x104
    (Q H 2)
    (fetterlockref6_DiagramFault.l67 Q Y45 x1 x5 x6 0 H)
def fetterlockref6_DiagramFault.b45 (Q : AHeap → Int → Prop) (Y45 : Tup [.ac, .int .i64] → AHeap → Prop) (x1 : AC) (x5 : Int) (H : AHeap) : Prop :=
  FA 0 x1 fun q_1 =>
  Ld [.ac] H q_1 fun (v_2 : AC) =>
  LenS v_2 fun n_3 =>
  CondB (decide (x5 < n_3))
    (FA 0 x1 fun q_4 =>
    Ld [.ac] H q_4 fun (v_5 : AC) =>
    IA 3 v_5 x5 fun q_6 =>
    Ld [.int .i64, .int .i64, .int .i64] H q_6 fun (v_7 : Int) (v_8 : Int) (v_9 : Int) =>
    New 77 [(.int .i64 0), (.int .i64 0), (.int .i64 0)] H fun p_10 H_11 =>
    Sto H_11 p_10 [(.int .i64 v_7), (.int .i64 v_8), (.int .i64 v_9)] fun H_12 =>
    FA 1 p_10 fun q_13 =>
    Ld [.int .i64] H_12 q_13 fun (v_14 : Int) =>
    FA 2 p_10 fun q_15 =>
    Ld [.int .i64] H_12 q_15 fun (v_16 : Int) =>
    CondB (v_14 == v_16)
      (fetterlockref6_DiagramFault.p59 Q Y45 x1 x5 p_10 true H_12)
      (FA 1 p_10 fun q_17 =>
      Ld [.int .i64] H_12 q_17 fun (v_18 : Int) =>
      CondB (decide (v_18 ≥ 0))
        (FA 0 x1 fun q_19 =>
        Ld [.ac] H_12 q_19 fun (v_20 : AC) =>
        FA 1 p_10 fun q_21 =>
        Ld [.int .i64] H_12 q_21 fun (v_22 : Int) =>
        IA 3 v_20 v_22 fun q_23 =>
        FA 0 q_23 fun q_24 =>
        Ld [.int .i64] H_12 q_24 fun (v_25 : Int) =>
        FA 0 p_10 fun q_26 =>
        Ld [.int .i64] H_12 q_26 fun (v_27 : Int) =>
        CondB (decide (v_25 ≤ v_27))
          (fetterlockref6_DiagramFault.p59 Q Y45 x1 x5 p_10 true H_12)
          (FA 2 p_10 fun q_28 =>
          Ld [.int .i64] H_12 q_28 fun (v_29 : Int) =>
          CondB (decide (v_29 ≥ 0))
            (FA 0 x1 fun q_30 =>
            Ld [.ac] H_12 q_30 fun (v_31 : AC) =>
            FA 2 p_10 fun q_32 =>
            Ld [.int .i64] H_12 q_32 fun (v_33 : Int) =>
            IA 3 v_31 v_33 fun q_34 =>
            FA 0 q_34 fun q_35 =>
            Ld [.int .i64] H_12 q_35 fun (v_36 : Int) =>
            FA 0 p_10 fun q_37 =>
            Ld [.int .i64] H_12 q_37 fun (v_38 : Int) =>
            fetterlockref6_DiagramFault.p59 Q Y45 x1 x5 p_10 (decide (v_36 ≤ v_38)) H_12)
            (fetterlockref6_DiagramFault.p59 Q Y45 x1 x5 p_10 false H_12)))
        (FA 2 p_10 fun q_39 =>
        Ld [.int .i64] H_12 q_39 fun (v_40 : Int) =>
        CondB (decide (v_40 ≥ 0))
          (FA 0 x1 fun q_41 =>
          Ld [.ac] H_12 q_41 fun (v_42 : AC) =>
          FA 2 p_10 fun q_43 =>
          Ld [.int .i64] H_12 q_43 fun (v_44 : Int) =>
          IA 3 v_42 v_44 fun q_45 =>
          FA 0 q_45 fun q_46 =>
          Ld [.int .i64] H_12 q_46 fun (v_47 : Int) =>
          FA 0 p_10 fun q_48 =>
          Ld [.int .i64] H_12 q_48 fun (v_49 : Int) =>
          fetterlockref6_DiagramFault.p59 Q Y45 x1 x5 p_10 (decide (v_47 ≤ v_49)) H_12)
          (fetterlockref6_DiagramFault.p59 Q Y45 x1 x5 p_10 false H_12))))
    (FA 0 x1 fun q_50 =>
    Ld [.ac] H q_50 fun (v_51 : AC) =>
    LenS v_51 fun n_52 =>
    CondB (n_52 == 0)
      (FA 1 x1 fun q_53 =>
      Ld [.int .i64] H q_53 fun (v_54 : Int) =>
      CondB (v_54 != (-1))
        (FA 1 x1 fun q_55 =>
        Ld [.int .i64] H q_55 fun (v_56 : Int) =>
        fetterlockref6_DiagramFault.p92 Q (v_56 != (-2)) H)
        (fetterlockref6_DiagramFault.p92 Q false H))
      (FA 1 x1 fun q_57 =>
      Ld [.int .i64] H q_57 fun (v_58 : Int) =>
      FA 0 x1 fun q_59 =>
      Ld [.ac] H q_59 fun (v_60 : AC) =>
      LenS v_60 fun n_61 =>
      CondB (v_58 != (IntKind.wrap .i64 (n_61 - 1)))
        (Q H 2)
        (Ld [.ac, .int .i64] H x1 fun (v_62 : AC) (v_63 : Int) =>
        FA 1 x1 fun q_64 =>
        Ld [.int .i64] H q_64 fun (v_65 : Int) =>
        Fn.fetterlockref6_numbered v_62 v_63 v_65 (.sl none 0 0 (some 0)) H fun H_66 (v_67 : AC) =>
        LenS v_67 fun n_68 =>
        FA 0 x1 fun q_69 =>
        Ld [.ac] H_66 q_69 fun (v_70 : AC) =>
        LenS v_70 fun n_71 =>
        CondB (n_68 != n_71)
          (Q H_66 2)
          (fetterlockref6_DiagramFault.l123 Q v_67 0 H_66))))
def fetterlockref6_DiagramFault.l45 (Q : AHeap → Int → Prop) (x1 : AC) (x5 : Int) (H : AHeap) : Prop := LoopT (Tup [.ac, .int .i64]) (fun Y s H => fetterlockref6_DiagramFault.b45 Q Y (s.1) (s.2.1) H) (x1, x5, ()) H
def fetterlockref6_DiagramFault.p35 (Q : AHeap → Int → Prop) (Y14 : Tup [.ac, .int .i64] → AHeap → Prop) (x1 : AC) (x3 : Int) (x53 : Bool) (H : AHeap) : Prop :=
  CondB x53
    (Q H 2)
    (Y14 (x1, ((IntKind.wrap .i64 (x3 + 1)) : Int), ()) H)
def fetterlockref6_DiagramFault.p28 (Q : AHeap → Int → Prop) (Y14 : Tup [.ac, .int .i64] → AHeap → Prop) (x1 : AC) (x3 : Int) (x4 : AC) (x33 : Bool) (H : AHeap) : Prop :=
  CondB x33
    (Q H 1)
    (FA 1 x4 fun q_1 =>
    Ld [.int .i64] H q_1 fun (v_2 : Int) =>
    CondB (decide (v_2 < (-2)))
      (fetterlockref6_DiagramFault.p35 Q Y14 x1 x3 true H)
      (FA 1 x4 fun q_3 =>
      Ld [.int .i64] H q_3 fun (v_4 : Int) =>
      CondB (decide (v_4 ≥ x3))
        (fetterlockref6_DiagramFault.p35 Q Y14 x1 x3 true H)
        (FA 2 x4 fun q_5 =>
        Ld [.int .i64] H q_5 fun (v_6 : Int) =>
        CondB (decide (v_6 < (-2)))
          (fetterlockref6_DiagramFault.p35 Q Y14 x1 x3 true H)
          (FA 2 x4 fun q_7 =>
          Ld [.int .i64] H q_7 fun (v_8 : Int) =>
          fetterlockref6_DiagramFault.p35 Q Y14 x1 x3 (decide (v_8 ≥ x3)) H))))
def fetterlockref6_DiagramFault.b14 (Q : AHeap → Int → Prop) (Y14 : Tup [.ac, .int .i64] → AHeap → Prop) (x1 : AC) (x3 : Int) (H : AHeap) : Prop :=
  FA 0 x1 fun q_1 =>
  Ld [.ac] H q_1 fun (v_2 : AC) =>
  LenS v_2 fun n_3 =>
  CondB (decide (x3 < n_3))
    (FA 0 x1 fun q_4 =>
    Ld [.ac] H q_4 fun (v_5 : AC) =>
    IA 3 v_5 x3 fun q_6 =>
    Ld [.int .i64, .int .i64, .int .i64] H q_6 fun (v_7 : Int) (v_8 : Int) (v_9 : Int) =>
    New 77 [(.int .i64 0), (.int .i64 0), (.int .i64 0)] H fun p_10 H_11 =>
    Sto H_11 p_10 [(.int .i64 v_7), (.int .i64 v_8), (.int .i64 v_9)] fun H_12 =>
    FA 0 p_10 fun q_13 =>
    Ld [.int .i64] H_12 q_13 fun (v_14 : Int) =>
    CondB (decide (v_14 < 0))
      (fetterlockref6_DiagramFault.p28 Q Y14 x1 x3 p_10 true H_12)
      (FA 0 p_10 fun q_15 =>
      Ld [.int .i64] H_12 q_15 fun (v_16 : Int) =>
      fetterlockref6_DiagramFault.p28 Q Y14 x1 x3 p_10 (decide (v_16 ≥ 16)) H_12))
    (fetterlockref6_DiagramFault.l45 Q x1 0 H)
def fetterlockref6_DiagramFault.l14 (Q : AHeap → Int → Prop) (x1 : AC) (x3 : Int) (H : AHeap) : Prop := LoopT (Tup [.ac, .int .i64]) (fun Y s H => fetterlockref6_DiagramFault.b14 Q Y (s.1) (s.2.1) H) (x1, x3, ()) H
def fetterlockref6_DiagramFault.W (a0_0 : AC) (a0_1 : Int) (H : AHeap) (Q : AHeap → Int → Prop) : Prop :=
  New 27 [a0_0, (.int .i64 a0_1)] H fun p_1 H_2 =>
  FA 0 p_1 fun q_3 =>
  Ld [.ac] H_2 q_3 fun (v_4 : AC) =>
  LenS v_4 fun n_5 =>
  CondB (decide (n_5 > 2000))
    (Q H_2 3)
    (fetterlockref6_DiagramFault.l14 Q p_1 0 H_2)
theorem fetterlockref6_DiagramFault.b123_ok (Q : AHeap → Int → Prop) (Y123 : Tup [.ac, .int .i64] → AHeap → Prop) (X123 : Env → AHeap → Prop) (hX123 : ∀ s t H, fetterlockref6_DiagramFault.R123 s t → Y123 s H → X123 t H) {x8 : AC} {x9 : Int} {H : AHeap} (j : Env) : fetterlockref6_DiagramFault.b123 Q Y123 x8 x9 H → wpC Try.prog fetterlockref6_DiagramFault.c124 (upd (upd j 8 (.one x8)) 9 (.one (.int .i64 x9))) H (kSeq X123 (kBlk 6 (fetterlockref6_DiagramFault.k120 Q))) := c_seq (c_seq (c_ops (s_cons (w_put (o_mov rfl (s_cons (w_put (o_mov rfl (s_cons (w_put (o_lens rfl (fun n_1 => s_cons (w_put (o_lt rfl rfl (s_nil (k_seq (c_if rfl (c_skip (k_seq (c_seq (c_blk (c_seq (c_ops (s_cons (w_put (o_mov rfl (s_cons (w_put (o_mov rfl (s_cons (w_put (o_ia rfl rfl (fun q_2 => s_cons (w_put (o_ld1 rfl (fun (v_3 : Int) => s_cons (w_put (o_mov rfl (s_cons (w_put (o_ne rfl rfl (s_nil (k_seq (c_if rfl (c_seq (c_ops (s_cons (w_put (o_mov rfl (s_nil (k_seq (c_ret (k_blkR (k_seqR (k_seqR (k_blkR (k_seqR (k_topR (r_one rfl (r_nil (fun h => ⟨((2 : Int), ()), rfl, h⟩))))))))))))))))) (c_skip (k_blk (k_seq (c_ops (s_cons (w_put (o_mov rfl (s_cons (w_put (o_add rfl rfl (s_cons (w_put (o_mov rfl (s_nil (k_seq (hX123 _ _ _ ⟨rfl, rfl, trivial⟩))))))))))))))))))))))))))))))))))))))))))) (c_exit (k_seqE (k_seqE (k_blkH (k_seq (c_seq (c_ops (s_cons (w_put (o_mov rfl (s_nil (k_seq (c_ret (k_topR (r_one rfl (r_nil (fun h => ⟨((0 : Int), ()), rfl, h⟩))))))))))))))))))))))))))))))))))
theorem fetterlockref6_DiagramFault.l123_ok (Q : AHeap → Int → Prop) {x8 : AC} {x9 : Int} {H : AHeap} {t : Env} (h8 : t 8 = (.one x8)) (h9 : t 9 = (.one (.int .i64 x9))) : fetterlockref6_DiagramFault.l123 Q x8 x9 H → wpC Try.prog (.loop fetterlockref6_DiagramFault.c124) t H (kBlk 6 (fetterlockref6_DiagramFault.k120 Q)) :=
  m_loop fetterlockref6_DiagramFault.R123 ⟨h8, h9, trivial⟩ fun X Y hX s t H hR hB => by
    have g := fetterlockref6_DiagramFault.b123_ok Q Y X hX t hB
    rw [upd_self hR.1] at g
    rw [upd_self hR.2.1] at g
    exact g
theorem fetterlockref6_DiagramFault.p92_okE (Q : AHeap → Int → Prop) {x128 : Bool} {H : AHeap} (j : Env) : fetterlockref6_DiagramFault.p92 Q x128 H → wpC Try.prog fetterlockref6_DiagramFault.c92 (upd j 128 (.one (.bool x128))) H (fetterlockref6_DiagramFault.k90 Q) := c_if rfl (c_seq (c_ops (s_cons (w_put (o_mov rfl (s_nil (k_seq (c_ret (k_seqR (k_seqR (k_topR (r_one rfl (r_nil (fun h => ⟨((2 : Int), ()), rfl, h⟩)))))))))))))) (c_skip (k_seq (c_seq (c_ops (s_cons (w_put (o_mov rfl (s_nil (k_seq (c_ret (k_seqR (k_topR (r_one rfl (r_nil (fun h => ⟨((0 : Int), ()), rfl, h⟩)))))))))))))))
theorem fetterlockref6_DiagramFault.p92_ok (Q : AHeap → Int → Prop) {x128 : Bool} {H : AHeap} {t : Env} (h128 : t 128 = (.one (.bool x128))) (h : fetterlockref6_DiagramFault.p92 Q x128 H) : wpC Try.prog fetterlockref6_DiagramFault.c92 t H (fetterlockref6_DiagramFault.k90 Q) := by
  have g := fetterlockref6_DiagramFault.p92_okE Q t h
  rw [upd_self h128] at g
  exact g
theorem fetterlockref6_DiagramFault.b67_ok (Q : AHeap → Int → Prop) (Y45 : Tup [.ac, .int .i64] → AHeap → Prop) (X45 : Env → AHeap → Prop) (hX45 : ∀ s t H, fetterlockref6_DiagramFault.R45 s t → Y45 s H → X45 t H) (Y67 : Tup [.ac, .int .i64, .ac, .int .i64] → AHeap → Prop) (X67 : Env → AHeap → Prop) (hX67 : ∀ s t H, fetterlockref6_DiagramFault.R67 s t → Y67 s H → X67 t H) {x1 : AC} {x5 : Int} {x6 : AC} {x7 : Int} {H : AHeap} (j : Env) : fetterlockref6_DiagramFault.b67 Q Y45 Y67 x1 x5 x6 x7 H → wpC Try.prog fetterlockref6_DiagramFault.c68 (upd (upd (upd (upd j 1 (.one x1)) 5 (.one (.int .i64 x5))) 6 (.one x6)) 7 (.one (.int .i64 x7))) H (kSeq X67 (kBlk 4 (kBlk 3 (fetterlockref6_DiagramFault.k53 Q X45)))) := c_seq (c_seq (c_ops (s_cons (w_put (o_mov rfl (s_cons (w_put (o_mov rfl (s_cons (w_put (o_lt rfl rfl (s_nil (k_seq (c_if rfl (c_skip (k_seq (c_seq (c_blk (c_seq (c_ops (s_cons (w_put (o_fa rfl (fun q_1 => s_cons (w_put (o_ld1 rfl (fun (v_2 : AC) => s_cons (w_put (o_mov rfl (s_cons (w_put (o_ia rfl rfl (fun q_3 => s_cons (w_put (o_ld3 rfl (fun (v_4 : Int) (v_5 : Int) (v_6 : Int) => s_cons (w_put (o_ld3 rfl (fun (v_7 : Int) (v_8 : Int) (v_9 : Int) => s_cons (w_put (o_eqa rfl rfl rfl rfl rfl (s_nil (k_seq (c_if rfl (c_seq (c_ops (s_cons (w_put (o_mov rfl (s_nil (k_seq (c_ret (k_blkR (k_seqR (k_seqR (k_blkR (k_blkR (k_seqR (k_seqR (k_blkR (k_seqR (k_topR (r_one rfl (r_nil (fun h => ⟨((2 : Int), ()), rfl, h⟩))))))))))))))))))))) (c_skip (k_blk (k_seq (c_ops (s_cons (w_put (o_mov rfl (s_cons (w_put (o_add rfl rfl (s_cons (w_put (o_mov rfl (s_nil (k_seq (hX67 _ _ _ ⟨rfl, rfl, rfl, rfl, trivial⟩)))))))))))))))))))))))))))))))))))))))))))))) (c_exit (k_seqE (k_seqE (k_blkH (k_blk (k_seq (c_ops (s_cons (w_put (o_mov rfl (s_cons (w_put (o_add rfl rfl (s_cons (w_put (o_mov rfl (s_nil (k_seq (hX45 _ _ _ ⟨rfl, rfl, trivial⟩)))))))))))))))))))))))))))))))))
theorem fetterlockref6_DiagramFault.l67_ok (Q : AHeap → Int → Prop) (Y45 : Tup [.ac, .int .i64] → AHeap → Prop) (X45 : Env → AHeap → Prop) (hX45 : ∀ s t H, fetterlockref6_DiagramFault.R45 s t → Y45 s H → X45 t H) {x1 : AC} {x5 : Int} {x6 : AC} {x7 : Int} {H : AHeap} {t : Env} (h1 : t 1 = (.one x1)) (h5 : t 5 = (.one (.int .i64 x5))) (h6 : t 6 = (.one x6)) (h7 : t 7 = (.one (.int .i64 x7))) : fetterlockref6_DiagramFault.l67 Q Y45 x1 x5 x6 x7 H → wpC Try.prog (.loop fetterlockref6_DiagramFault.c68) t H (kBlk 4 (kBlk 3 (fetterlockref6_DiagramFault.k53 Q X45))) :=
  m_loop fetterlockref6_DiagramFault.R67 ⟨h1, h5, h6, h7, trivial⟩ fun X Y hX s t H hR hB => by
    have g := fetterlockref6_DiagramFault.b67_ok Q Y45 X45 hX45 Y X hX t hB
    rw [upd_self hR.1] at g
    rw [upd_self hR.2.1] at g
    rw [upd_self hR.2.2.1] at g
    rw [upd_self hR.2.2.2.1] at g
    exact g
theorem fetterlockref6_DiagramFault.p59_okE (Q : AHeap → Int → Prop) (Y45 : Tup [.ac, .int .i64] → AHeap → Prop) (X45 : Env → AHeap → Prop) (hX45 : ∀ s t H, fetterlockref6_DiagramFault.R45 s t → Y45 s H → X45 t H) {x1 : AC} {x5 : Int} {x6 : AC} {x104 : Bool} {H : AHeap} (j : Env) : fetterlockref6_DiagramFault.p59 Q Y45 x1 x5 x6 x104 H → wpC Try.prog fetterlockref6_DiagramFault.c59 (upd (upd (upd (upd j 1 (.one x1)) 5 (.one (.int .i64 x5))) 6 (.one x6)) 104 (.one (.bool x104))) H (fetterlockref6_DiagramFault.k57 Q X45) := c_if rfl (c_seq (c_ops (s_cons (w_put (o_mov rfl (s_nil (k_seq (c_ret (k_seqR (k_blkR (k_seqR (k_seqR (k_blkR (k_seqR (k_topR (r_one rfl (r_nil (fun h => ⟨((2 : Int), ()), rfl, h⟩)))))))))))))))))) (c_skip (k_seq (c_seq (c_ops (s_cons (w_put (o_mov rfl (s_nil (k_seq (c_blk (fetterlockref6_DiagramFault.l67_ok Q Y45 X45 hX45 rfl rfl rfl rfl)))))))))))
theorem fetterlockref6_DiagramFault.p59_ok (Q : AHeap → Int → Prop) (Y45 : Tup [.ac, .int .i64] → AHeap → Prop) (X45 : Env → AHeap → Prop) (hX45 : ∀ s t H, fetterlockref6_DiagramFault.R45 s t → Y45 s H → X45 t H) {x1 : AC} {x5 : Int} {x6 : AC} {x104 : Bool} {H : AHeap} {t : Env} (h1 : t 1 = (.one x1)) (h5 : t 5 = (.one (.int .i64 x5))) (h6 : t 6 = (.one x6)) (h104 : t 104 = (.one (.bool x104))) (h : fetterlockref6_DiagramFault.p59 Q Y45 x1 x5 x6 x104 H) : wpC Try.prog fetterlockref6_DiagramFault.c59 t H (fetterlockref6_DiagramFault.k57 Q X45) := by
  have g := fetterlockref6_DiagramFault.p59_okE Q Y45 X45 hX45 t h
  rw [upd_self h1] at g
  rw [upd_self h5] at g
  rw [upd_self h6] at g
  rw [upd_self h104] at g
  exact g
theorem fetterlockref6_DiagramFault.b45_ok (Q : AHeap → Int → Prop) (Y45 : Tup [.ac, .int .i64] → AHeap → Prop) (X45 : Env → AHeap → Prop) (hX45 : ∀ s t H, fetterlockref6_DiagramFault.R45 s t → Y45 s H → X45 t H) {x1 : AC} {x5 : Int} {H : AHeap} (j : Env) : fetterlockref6_DiagramFault.b45 Q Y45 x1 x5 H → wpC Try.prog fetterlockref6_DiagramFault.c46 (upd (upd j 1 (.one x1)) 5 (.one (.int .i64 x5))) H (kSeq X45 (kBlk 2 (fetterlockref6_DiagramFault.k42 Q))) := c_seq (c_seq (c_ops (s_cons (w_put (o_mov rfl (s_cons (w_put (o_fa rfl (fun q_1 => s_cons (w_put (o_ld1 rfl (fun (v_2 : AC) => s_cons (w_put (o_lens rfl (fun n_3 => s_cons (w_put (o_lt rfl rfl (s_nil (k_seq (c_if rfl (c_skip (k_seq (c_seq (c_blk (c_seq (c_ops (s_cons (w_put (o_fa rfl (fun q_4 => s_cons (w_put (o_ld1 rfl (fun (v_5 : AC) => s_cons (w_put (o_mov rfl (s_cons (w_put (o_ia rfl rfl (fun q_6 => s_cons (w_put (o_ld3 rfl (fun (v_7 : Int) (v_8 : Int) (v_9 : Int) => s_cons (w_put (o_new (fun p_10 H_11 => s_cons (w_run (o_st rfl rfl rfl (fun H_12 => s_nil (k_seq (c_seq (c_seq (c_ops (s_cons (w_put (o_fa rfl (fun q_13 => s_cons (w_put (o_ld1 rfl (fun (v_14 : Int) => s_cons (w_put (o_fa rfl (fun q_15 => s_cons (w_put (o_ld1 rfl (fun (v_16 : Int) => s_cons (w_put (o_eq rfl rfl (s_cons (w_put (o_mov rfl (s_cons (w_gputF rfl (s_cons (w_gputN rfl (s_cons (w_gputN rfl (s_cons (w_gputN rfl (s_cons (w_gputJ rfl (s_cons (w_gputJ rfl (s_cons (w_gputJ rfl (s_cons (w_gputJ rfl (s_cons (w_gputJ rfl (s_cons (w_gputJ rfl (s_cons (w_gputJ rfl (s_cons (w_gputJ rfl (s_cons (w_gputJ rfl (s_cons (w_gputJ rfl (s_cons (w_gputN rfl (s_cons (w_put (o_pickT rfl rfl (s_cons (w_put (o_mov rfl (s_cons (w_gputN rfl (s_cons (w_gputN rfl (s_cons (w_gputN rfl (s_cons (w_gputN rfl (s_cons (w_gputJ rfl (s_cons (w_gputJ rfl (s_cons (w_gputJ rfl (s_cons (w_gputJ rfl (s_cons (w_gputJ rfl (s_cons (w_gputJ rfl (s_cons (w_gputJ rfl (s_cons (w_gputJ rfl (s_cons (w_gputJ rfl (s_cons (w_gputJ rfl (s_cons (w_gputN rfl (s_cons (w_put (o_pickT rfl rfl (s_nil (k_seq (fetterlockref6_DiagramFault.p59_ok Q Y45 X45 hX45 rfl rfl rfl rfl)))))))))))))))))))))))))))))))))))))))))))))))))))))))))))))))))))))) (o_fa rfl (fun q_17 => s_cons (w_gputY rfl (o_ld1 rfl (fun (v_18 : Int) => s_cons (w_gputY rfl (o_ge rfl rfl (s_cons (w_gputY rfl (o_mov rfl (s_cons (w_gputT rfl (o_fa rfl (fun q_19 => s_cons (w_gputY rfl (o_ld1 rfl (fun (v_20 : AC) => s_cons (w_gputY rfl (o_fa rfl (fun q_21 => s_cons (w_gputY rfl (o_ld1 rfl (fun (v_22 : Int) => s_cons (w_gputY rfl (o_ia rfl rfl (fun q_23 => s_cons (w_gputY rfl (o_fa rfl (fun q_24 => s_cons (w_gputY rfl (o_ld1 rfl (fun (v_25 : Int) => s_cons (w_gputY rfl (o_fa rfl (fun q_26 => s_cons (w_gputY rfl (o_ld1 rfl (fun (v_27 : Int) => s_cons (w_gputY rfl (o_le rfl rfl (s_cons (w_gputY rfl (o_pickT rfl rfl (s_cons (w_put (o_pickF rfl rfl (s_cons (w_put (o_mov rfl (s_cons (w_gputF rfl (s_cons (w_gputN rfl (s_cons (w_gputN rfl (s_cons (w_gputN rfl (s_cons (w_gputJ rfl (s_cons (w_gputJ rfl (s_cons (w_gputJ rfl (s_cons (w_gputJ rfl (s_cons (w_gputJ rfl (s_cons (w_gputJ rfl (s_cons (w_gputJ rfl (s_cons (w_gputJ rfl (s_cons (w_gputJ rfl (s_cons (w_gputJ rfl (s_cons (w_gputN rfl (s_cons (w_put (o_pickT rfl rfl (s_nil (k_seq (fetterlockref6_DiagramFault.p59_ok Q Y45 X45 hX45 rfl rfl rfl rfl)))))))))))))))))))))))))))))))))) (o_fa rfl (fun q_28 => s_cons (w_gputY rfl (o_ld1 rfl (fun (v_29 : Int) => s_cons (w_gputY rfl (o_ge rfl rfl (s_cons (w_gputY rfl (o_mov rfl (s_cons (w_gputT rfl (o_fa rfl (fun q_30 => s_cons (w_gputY rfl (o_ld1 rfl (fun (v_31 : AC) => s_cons (w_gputY rfl (o_fa rfl (fun q_32 => s_cons (w_gputY rfl (o_ld1 rfl (fun (v_33 : Int) => s_cons (w_gputY rfl (o_ia rfl rfl (fun q_34 => s_cons (w_gputY rfl (o_fa rfl (fun q_35 => s_cons (w_gputY rfl (o_ld1 rfl (fun (v_36 : Int) => s_cons (w_gputY rfl (o_fa rfl (fun q_37 => s_cons (w_gputY rfl (o_ld1 rfl (fun (v_38 : Int) => s_cons (w_gputY rfl (o_le rfl rfl (s_cons (w_gputY rfl (o_pickT rfl rfl (s_cons (w_put (o_pickF rfl rfl (s_nil (k_seq (fetterlockref6_DiagramFault.p59_ok Q Y45 X45 hX45 rfl rfl rfl rfl))))))))))))))))))))))))))))))))))))) (s_cons (w_gputN rfl (s_cons (w_gputN rfl (s_cons (w_gputN rfl (s_cons (w_gputN rfl (s_cons (w_gputN rfl (s_cons (w_gputN rfl (s_cons (w_gputN rfl (s_cons (w_gputN rfl (s_cons (w_gputN rfl (s_cons (w_gputY rfl (o_pickF rfl rfl (s_cons (w_put (o_pickF rfl rfl (s_nil (k_seq (fetterlockref6_DiagramFault.p59_ok Q Y45 X45 hX45 rfl rfl rfl rfl)))))))))))))))))))))))))))))))))))))))))))))))))))))))))))))))))))))))))))))) (s_cons (w_gputN rfl (s_cons (w_gputN rfl (s_cons (w_gputN rfl (s_cons (w_gputN rfl (s_cons (w_gputN rfl (s_cons (w_gputN rfl (s_cons (w_gputN rfl (s_cons (w_gputN rfl (s_cons (w_gputN rfl (s_cons (w_gputY rfl (o_pickF rfl rfl (s_cons (w_put (o_pickF rfl rfl (s_cons (w_put (o_mov rfl (s_cons (w_gputY rfl (o_fa rfl (fun q_39 => s_cons (w_gputY rfl (o_ld1 rfl (fun (v_40 : Int) => s_cons (w_gputY rfl (o_ge rfl rfl (s_cons (w_gputY rfl (o_mov rfl (s_cons (w_gputT rfl (o_fa rfl (fun q_41 => s_cons (w_gputY rfl (o_ld1 rfl (fun (v_42 : AC) => s_cons (w_gputY rfl (o_fa rfl (fun q_43 => s_cons (w_gputY rfl (o_ld1 rfl (fun (v_44 : Int) => s_cons (w_gputY rfl (o_ia rfl rfl (fun q_45 => s_cons (w_gputY rfl (o_fa rfl (fun q_46 => s_cons (w_gputY rfl (o_ld1 rfl (fun (v_47 : Int) => s_cons (w_gputY rfl (o_fa rfl (fun q_48 => s_cons (w_gputY rfl (o_ld1 rfl (fun (v_49 : Int) => s_cons (w_gputY rfl (o_le rfl rfl (s_cons (w_gputY rfl (o_pickT rfl rfl (s_cons (w_put (o_pickF rfl rfl (s_nil (k_seq (fetterlockref6_DiagramFault.p59_ok Q Y45 X45 hX45 rfl rfl rfl rfl))))))))))))))))))))))))))))))))))))) (s_cons (w_gputN rfl (s_cons (w_gputN rfl (s_cons (w_gputN rfl (s_cons (w_gputN rfl (s_cons (w_gputN rfl (s_cons (w_gputN rfl (s_cons (w_gputN rfl (s_cons (w_gputN rfl (s_cons (w_gputN rfl (s_cons (w_gputY rfl (o_pickF rfl rfl (s_cons (w_put (o_pickF rfl rfl (s_nil (k_seq (fetterlockref6_DiagramFault.p59_ok Q Y45 X45 hX45 rfl rfl rfl rfl)))))))))))))))))))))))))))))))))))))))))))))))))))))))))))))))))))))))))))))))))))))))))))))))))))))))))))))))))))))))))))))))))))) (c_exit (k_seqE (k_seqE (k_blkH (k_seq (c_seq (c_seq (c_ops (s_cons (w_put (o_fa rfl (fun q_50 => s_cons (w_put (o_ld1 rfl (fun (v_51 : AC) => s_cons (w_put (o_lens rfl (fun n_52 => s_cons (w_put (o_eq rfl rfl (s_nil (k_seq (c_if rfl (c_seq (c_seq (c_ops (s_cons (w_put (o_fa rfl (fun q_53 => s_cons (w_put (o_ld1 rfl (fun (v_54 : Int) => s_cons (w_put (o_ne rfl rfl (s_cons (w_put (o_mov rfl (s_cons (w_gputT rfl (o_fa rfl (fun q_55 => s_cons (w_gputY rfl (o_ld1 rfl (fun (v_56 : Int) => s_cons (w_gputY rfl (o_ne rfl rfl (s_cons (w_put (o_pickT rfl rfl (s_nil (k_seq (fetterlockref6_DiagramFault.p92_ok Q rfl))))))))))))) (s_cons (w_gputN rfl (s_cons (w_gputN rfl (s_cons (w_put (o_pickF rfl rfl (s_nil (k_seq (fetterlockref6_DiagramFault.p92_ok Q rfl))))))))))))))))))))))))))) (c_skip (k_seq (c_seq (c_seq (c_ops (s_cons (w_put (o_fa rfl (fun q_57 => s_cons (w_put (o_ld1 rfl (fun (v_58 : Int) => s_cons (w_put (o_fa rfl (fun q_59 => s_cons (w_put (o_ld1 rfl (fun (v_60 : AC) => s_cons (w_put (o_lens rfl (fun n_61 => s_cons (w_put (o_sub rfl rfl (s_cons (w_put (o_ne rfl rfl (s_nil (k_seq (c_if rfl (c_seq (c_ops (s_cons (w_put (o_mov rfl (s_nil (k_seq (c_ret (k_seqR (k_topR (r_one rfl (r_nil (fun h => ⟨((2 : Int), ()), rfl, h⟩))))))))))))) (c_skip (k_seq (c_seq (c_ops (s_cons (w_put (o_ld2 rfl (fun (v_62 : AC) (v_63 : Int) => s_cons (w_put (o_fa rfl (fun q_64 => s_cons (w_put (o_ld1 rfl (fun (v_65 : Int) => s_cons (w_put (o_call rfl (cv_1 (fun H_66 (v_67 : AC) => s_cons (w_put (o_mov rfl (s_nil (k_seq (c_seq (c_seq (c_ops (s_cons (w_put (o_mov rfl (s_cons (w_put (o_lens rfl (fun n_68 => s_cons (w_put (o_fa rfl (fun q_69 => s_cons (w_put (o_ld1 rfl (fun (v_70 : AC) => s_cons (w_put (o_lens rfl (fun n_71 => s_cons (w_put (o_ne rfl rfl (s_nil (k_seq (c_if rfl (c_seq (c_ops (s_cons (w_put (o_mov rfl (s_nil (k_seq (c_ret (k_seqR (k_topR (r_one rfl (r_nil (fun h => ⟨((2 : Int), ()), rfl, h⟩))))))))))))) (c_skip (k_seq (c_seq (c_seq (c_ops (s_cons (w_put (o_mov rfl (s_nil (k_seq (c_blk (fetterlockref6_DiagramFault.l123_ok Q rfl rfl))))))))))))))))))))))))))))))))))))))))))))))))))))))))))))))))))))))))))))))))))))))))))))))))))))))))))))))))))))))))))))))))))
theorem fetterlockref6_DiagramFault.l45_ok (Q : AHeap → Int → Prop) {x1 : AC} {x5 : Int} {H : AHeap} {t : Env} (h1 : t 1 = (.one x1)) (h5 : t 5 = (.one (.int .i64 x5))) : fetterlockref6_DiagramFault.l45 Q x1 x5 H → wpC Try.prog (.loop fetterlockref6_DiagramFault.c46) t H (kBlk 2 (fetterlockref6_DiagramFault.k42 Q)) :=
  m_loop fetterlockref6_DiagramFault.R45 ⟨h1, h5, trivial⟩ fun X Y hX s t H hR hB => by
    have g := fetterlockref6_DiagramFault.b45_ok Q Y X hX t hB
    rw [upd_self hR.1] at g
    rw [upd_self hR.2.1] at g
    exact g
theorem fetterlockref6_DiagramFault.p35_okE (Q : AHeap → Int → Prop) (Y14 : Tup [.ac, .int .i64] → AHeap → Prop) (X14 : Env → AHeap → Prop) (hX14 : ∀ s t H, fetterlockref6_DiagramFault.R14 s t → Y14 s H → X14 t H) {x1 : AC} {x3 : Int} {x53 : Bool} {H : AHeap} (j : Env) : fetterlockref6_DiagramFault.p35 Q Y14 x1 x3 x53 H → wpC Try.prog fetterlockref6_DiagramFault.c35 (upd (upd (upd j 1 (.one x1)) 3 (.one (.int .i64 x3))) 53 (.one (.bool x53))) H (kBlk 1 (fetterlockref6_DiagramFault.k22 Q X14)) := c_if rfl (c_seq (c_ops (s_cons (w_put (o_mov rfl (s_nil (k_seq (c_ret (k_blkR (k_seqR (k_seqR (k_blkR (k_seqR (k_topR (r_one rfl (r_nil (fun h => ⟨((2 : Int), ()), rfl, h⟩))))))))))))))))) (c_skip (k_blk (k_seq (c_ops (s_cons (w_put (o_mov rfl (s_cons (w_put (o_add rfl rfl (s_cons (w_put (o_mov rfl (s_nil (k_seq (hX14 _ _ _ ⟨rfl, rfl, trivial⟩))))))))))))))))
theorem fetterlockref6_DiagramFault.p35_ok (Q : AHeap → Int → Prop) (Y14 : Tup [.ac, .int .i64] → AHeap → Prop) (X14 : Env → AHeap → Prop) (hX14 : ∀ s t H, fetterlockref6_DiagramFault.R14 s t → Y14 s H → X14 t H) {x1 : AC} {x3 : Int} {x53 : Bool} {H : AHeap} {t : Env} (h1 : t 1 = (.one x1)) (h3 : t 3 = (.one (.int .i64 x3))) (h53 : t 53 = (.one (.bool x53))) (h : fetterlockref6_DiagramFault.p35 Q Y14 x1 x3 x53 H) : wpC Try.prog fetterlockref6_DiagramFault.c35 t H (kBlk 1 (fetterlockref6_DiagramFault.k22 Q X14)) := by
  have g := fetterlockref6_DiagramFault.p35_okE Q Y14 X14 hX14 t h
  rw [upd_self h1] at g
  rw [upd_self h3] at g
  rw [upd_self h53] at g
  exact g
theorem fetterlockref6_DiagramFault.p28_okE (Q : AHeap → Int → Prop) (Y14 : Tup [.ac, .int .i64] → AHeap → Prop) (X14 : Env → AHeap → Prop) (hX14 : ∀ s t H, fetterlockref6_DiagramFault.R14 s t → Y14 s H → X14 t H) {x1 : AC} {x3 : Int} {x4 : AC} {x33 : Bool} {H : AHeap} (j : Env) : fetterlockref6_DiagramFault.p28 Q Y14 x1 x3 x4 x33 H → wpC Try.prog fetterlockref6_DiagramFault.c28 (upd (upd (upd (upd j 1 (.one x1)) 3 (.one (.int .i64 x3))) 4 (.one x4)) 33 (.one (.bool x33))) H (fetterlockref6_DiagramFault.k26 Q X14) := c_if rfl (c_seq (c_ops (s_cons (w_put (o_mov rfl (s_nil (k_seq (c_ret (k_seqR (k_blkR (k_seqR (k_seqR (k_blkR (k_seqR (k_topR (r_one rfl (r_nil (fun h => ⟨((1 : Int), ()), rfl, h⟩)))))))))))))))))) (c_skip (k_seq (c_seq (c_ops (s_cons (w_put (o_fa rfl (fun q_1 => s_cons (w_put (o_ld1 rfl (fun (v_2 : Int) => s_cons (w_put (o_lt rfl rfl (s_cons (w_put (o_mov rfl (s_cons (w_gputF rfl (s_cons (w_gputN rfl (s_cons (w_gputN rfl (s_cons (w_gputN rfl (s_cons (w_put (o_pickT rfl rfl (s_cons (w_put (o_mov rfl (s_cons (w_gputN rfl (s_cons (w_gputN rfl (s_cons (w_gputN rfl (s_cons (w_put (o_pickT rfl rfl (s_cons (w_put (o_mov rfl (s_cons (w_gputN rfl (s_cons (w_gputN rfl (s_cons (w_gputN rfl (s_cons (w_gputN rfl (s_cons (w_put (o_pickT rfl rfl (s_nil (k_seq (fetterlockref6_DiagramFault.p35_ok Q Y14 X14 hX14 rfl rfl rfl)))))))))))))))))))))))))))))))))))))) (o_fa rfl (fun q_3 => s_cons (w_gputY rfl (o_ld1 rfl (fun (v_4 : Int) => s_cons (w_gputY rfl (o_mov rfl (s_cons (w_gputY rfl (o_ge rfl rfl (s_cons (w_put (o_pickF rfl rfl (s_cons (w_put (o_mov rfl (s_cons (w_gputF rfl (s_cons (w_gputN rfl (s_cons (w_gputN rfl (s_cons (w_put (o_pickT rfl rfl (s_cons (w_put (o_mov rfl (s_cons (w_gputN rfl (s_cons (w_gputN rfl (s_cons (w_gputN rfl (s_cons (w_gputN rfl (s_cons (w_put (o_pickT rfl rfl (s_nil (k_seq (fetterlockref6_DiagramFault.p35_ok Q Y14 X14 hX14 rfl rfl rfl)))))))))))))))))))))))) (o_fa rfl (fun q_5 => s_cons (w_gputY rfl (o_ld1 rfl (fun (v_6 : Int) => s_cons (w_gputY rfl (o_lt rfl rfl (s_cons (w_put (o_pickF rfl rfl (s_cons (w_put (o_mov rfl (s_cons (w_gputF rfl (s_cons (w_gputN rfl (s_cons (w_gputN rfl (s_cons (w_gputN rfl (s_cons (w_put (o_pickT rfl rfl (s_nil (k_seq (fetterlockref6_DiagramFault.p35_ok Q Y14 X14 hX14 rfl rfl rfl)))))))))))) (o_fa rfl (fun q_7 => s_cons (w_gputY rfl (o_ld1 rfl (fun (v_8 : Int) => s_cons (w_gputY rfl (o_mov rfl (s_cons (w_gputY rfl (o_ge rfl rfl (s_cons (w_put (o_pickF rfl rfl (s_nil (k_seq (fetterlockref6_DiagramFault.p35_ok Q Y14 X14 hX14 rfl rfl rfl)))))))))))))))))))))))))))))))))))))))))))))))))))))))))))))))))))
theorem fetterlockref6_DiagramFault.p28_ok (Q : AHeap → Int → Prop) (Y14 : Tup [.ac, .int .i64] → AHeap → Prop) (X14 : Env → AHeap → Prop) (hX14 : ∀ s t H, fetterlockref6_DiagramFault.R14 s t → Y14 s H → X14 t H) {x1 : AC} {x3 : Int} {x4 : AC} {x33 : Bool} {H : AHeap} {t : Env} (h1 : t 1 = (.one x1)) (h3 : t 3 = (.one (.int .i64 x3))) (h4 : t 4 = (.one x4)) (h33 : t 33 = (.one (.bool x33))) (h : fetterlockref6_DiagramFault.p28 Q Y14 x1 x3 x4 x33 H) : wpC Try.prog fetterlockref6_DiagramFault.c28 t H (fetterlockref6_DiagramFault.k26 Q X14) := by
  have g := fetterlockref6_DiagramFault.p28_okE Q Y14 X14 hX14 t h
  rw [upd_self h1] at g
  rw [upd_self h3] at g
  rw [upd_self h4] at g
  rw [upd_self h33] at g
  exact g
theorem fetterlockref6_DiagramFault.b14_ok (Q : AHeap → Int → Prop) (Y14 : Tup [.ac, .int .i64] → AHeap → Prop) (X14 : Env → AHeap → Prop) (hX14 : ∀ s t H, fetterlockref6_DiagramFault.R14 s t → Y14 s H → X14 t H) {x1 : AC} {x3 : Int} {H : AHeap} (j : Env) : fetterlockref6_DiagramFault.b14 Q Y14 x1 x3 H → wpC Try.prog fetterlockref6_DiagramFault.c15 (upd (upd j 1 (.one x1)) 3 (.one (.int .i64 x3))) H (kSeq X14 (kBlk 0 (fetterlockref6_DiagramFault.k11 Q))) := c_seq (c_seq (c_ops (s_cons (w_put (o_mov rfl (s_cons (w_put (o_fa rfl (fun q_1 => s_cons (w_put (o_ld1 rfl (fun (v_2 : AC) => s_cons (w_put (o_lens rfl (fun n_3 => s_cons (w_put (o_lt rfl rfl (s_nil (k_seq (c_if rfl (c_skip (k_seq (c_seq (c_blk (c_seq (c_ops (s_cons (w_put (o_fa rfl (fun q_4 => s_cons (w_put (o_ld1 rfl (fun (v_5 : AC) => s_cons (w_put (o_mov rfl (s_cons (w_put (o_ia rfl rfl (fun q_6 => s_cons (w_put (o_ld3 rfl (fun (v_7 : Int) (v_8 : Int) (v_9 : Int) => s_cons (w_put (o_new (fun p_10 H_11 => s_cons (w_run (o_st rfl rfl rfl (fun H_12 => s_nil (k_seq (c_seq (c_seq (c_ops (s_cons (w_put (o_fa rfl (fun q_13 => s_cons (w_put (o_ld1 rfl (fun (v_14 : Int) => s_cons (w_put (o_lt rfl rfl (s_cons (w_put (o_mov rfl (s_cons (w_gputF rfl (s_cons (w_gputN rfl (s_cons (w_gputN rfl (s_cons (w_put (o_pickT rfl rfl (s_nil (k_seq (fetterlockref6_DiagramFault.p28_ok Q Y14 X14 hX14 rfl rfl rfl rfl)))))))))) (o_fa rfl (fun q_15 => s_cons (w_gputY rfl (o_ld1 rfl (fun (v_16 : Int) => s_cons (w_gputY rfl (o_ge rfl rfl (s_cons (w_put (o_pickF rfl rfl (s_nil (k_seq (fetterlockref6_DiagramFault.p28_ok Q Y14 X14 hX14 rfl rfl rfl rfl))))))))))))))))))))))))))))))))))))))))))))))))))))))))))) (c_exit (k_seqE (k_seqE (k_blkH (k_seq (c_seq (c_seq (c_ops (s_cons (w_put (o_mov rfl (s_nil (k_seq (c_blk (fetterlockref6_DiagramFault.l45_ok Q rfl rfl)))))))))))))))))))))))))))))))))))
theorem fetterlockref6_DiagramFault.l14_ok (Q : AHeap → Int → Prop) {x1 : AC} {x3 : Int} {H : AHeap} {t : Env} (h1 : t 1 = (.one x1)) (h3 : t 3 = (.one (.int .i64 x3))) : fetterlockref6_DiagramFault.l14 Q x1 x3 H → wpC Try.prog (.loop fetterlockref6_DiagramFault.c15) t H (kBlk 0 (fetterlockref6_DiagramFault.k11 Q)) :=
  m_loop fetterlockref6_DiagramFault.R14 ⟨h1, h3, trivial⟩ fun X Y hX s t H hR hB => by
    have g := fetterlockref6_DiagramFault.b14_ok Q Y X hX t hB
    rw [upd_self hR.1] at g
    rw [upd_self hR.2.1] at g
    exact g
theorem fetterlockref6_DiagramFault.ok {a0_0 : AC} {a0_1 : Int} {H : AHeap} (Q : AHeap → Int → Prop) : fetterlockref6_DiagramFault.W a0_0 a0_1 H Q → wpF Try.prog fetterlockref6_DiagramFault.c [.tm 2] (envOf [(.agg [a0_0, (.int .i64 a0_1)])]) H (fetterlockref6_DiagramFault.KQ Q) := c_seq (c_ops (s_cons (w_put (o_box rfl (fun p_1 H_2 => s_cons (w_put (o_mov rfl (s_nil (k_seq (c_seq (c_seq (c_ops (s_cons (w_put (o_fa rfl (fun q_3 => s_cons (w_put (o_ld1 rfl (fun (v_4 : AC) => s_cons (w_put (o_lens rfl (fun n_5 => s_cons (w_put (o_gt rfl rfl (s_nil (k_seq (c_if rfl (c_seq (c_ops (s_cons (w_put (o_mov rfl (s_nil (k_seq (c_ret (k_seqR (k_topR (r_one rfl (r_nil (fun h => ⟨((3 : Int), ()), rfl, h⟩))))))))))))) (c_skip (k_seq (c_seq (c_seq (c_ops (s_cons (w_put (o_mov rfl (s_nil (k_seq (c_blk (fetterlockref6_DiagramFault.l14_ok Q rfl rfl)))))))))))))))))))))))))))))))))))))))
theorem fetterlockref6_DiagramFault.slimOk : slimOk [(15, []), (20, [])] (Try.f29.body.getD .skip) = true := by kernel_rfl
theorem fetterlockref6_DiagramFault.resC : resC Try.prog aggs Try.f29.ntmps (slim [(15, []), (20, [])] (Try.f29.body.getD .skip)) = some fetterlockref6_DiagramFault.c := by kernel_rfl
theorem fetterlockref6_DiagramFault.resR : resR Try.prog Try.f29.results.toList = some [.tm 2] := by kernel_rfl
theorem fetterlockref6_DiagramFault.bodyEq : Try.f29.body = some (Try.f29.body.getD .skip) := by kernel_rfl
theorem fetterlockref6_DiagramFault.run {a0_0 : AC} {a0_1 : Int} {H : AHeap} {Q : AHeap → Int → Prop} (h : fetterlockref6_DiagramFault.W a0_0 a0_1 H Q) : Fn.fetterlockref6_DiagramFault a0_0 a0_1 H Q := by
  unfold Fn.fetterlockref6_DiagramFault RunT
  exact run_of aggs_ok [(15, []), (20, [])] Try.func29 fetterlockref6_DiagramFault.bodyEq fetterlockref6_DiagramFault.slimOk fetterlockref6_DiagramFault.resC fetterlockref6_DiagramFault.resR (Nat.le_of_ble_eq_true (by kernel_rfl)) (fetterlockref6_DiagramFault.ok Q h)

end Go.Proofs.Ytanaaabejeeakaa
end
section
/- Rows that are those of trees, none twice; which walk makes them all. -/
namespace Go.AI
open DT

/-- No row has equal parts, none stands twice. -/
def OneOk (l : List NRow) (i : Nat) (p : NRow) : Prop := p.2.1 ≠ p.2.2 ∧ ∀ j q, j < i → l[j]? = some q → q ≠ p
theorem atR_in {l : List NRow} {r : Int} {i : Nat} (hi : i ≤ l.length) (h1 : -2 ≤ r) (h2 : r < i) (f : Fin (bld (l.take i))) : In (bld (l.take i)) (atR (bld (l.take i)) r) ∧ ref (bld (l.take i)) (atR (bld (l.take i)) r) = r := by
  unfold atR
  by_cases e1 : r = -1
  · subst e1; exact ⟨.inl ⟨false, rfl⟩, rfl⟩
  rw [if_neg e1]
  by_cases e2 : r = -2
  · subst e2; exact ⟨.inl ⟨true, rfl⟩, rfl⟩
  rw [if_neg e2]
  have hlt : r.toNat < (bld (l.take i)).length := by rw [bld_len, List.length_take]; omega
  rw [List.getElem?_eq_getElem hlt, Option.getD_some]
  refine ⟨.inr (List.getElem_mem _), ?_⟩
  rw [ref_idx f (List.getElem?_eq_getElem hlt)]
  omega
theorem strict_seq {l : List NRow} (h : RowsOk l) (h2 : ∀ i p, l[i]? = some p → OneOk l i p) : Seq (bld l) ∧ (bld l).map (row (bld l)) = l := by
  have key : ∀ n, n ≤ l.length → Seq (bld (l.take n)) ∧ (bld (l.take n)).map (row (bld (l.take n))) = l.take n := by
    intro n
    induction n with
    | zero => intro _; exact ⟨Seq.nil, rfl⟩
    | succ n ih =>
      intro hn
      obtain ⟨s1, s2⟩ := ih (by omega)
      have hp : l[n]? = some l[n] := List.getElem?_eq_getElem (by omega)
      obtain ⟨p, hpe⟩ : ∃ p, p = l[n] := ⟨_, rfl⟩
      rw [← hpe] at hp
      obtain ⟨hnum, hord⟩ := h n p hp
      obtain ⟨hne, hdup⟩ := h2 n p hp
      have hnum' := hnum
      unfold NumOk at hnum'
      have hlen : (bld (l.take n)).length = n := by rw [bld_len, List.length_take]; omega
      obtain ⟨in1, e1⟩ := atR_in (l := l) (i := n) (r := p.2.1) (by omega) hnum'.2.2.1 hnum'.2.2.2.1 s1.1
      obtain ⟨in2, e2⟩ := atR_in (l := l) (i := n) (r := p.2.2) (by omega) hnum'.2.2.2.2.1 hnum'.2.2.2.2.2 s1.1
      obtain ⟨x, hx, hro, _⟩ := bld_ro h _ n p (Nat.lt_succ_self _) hp
      have hb := bld_at hp hnum
      rw [hb] at hx
      simp only [Option.some.injEq] at hx
      have hpre := bld_take_pre l n
      rw [atR_mono hpre hnum'.2.2.1 (by rw [hlen]; omega), atR_mono hpre hnum'.2.2.2.2.1 (by rw [hlen]; omega)] at hx
      rw [bld_take_succ hp]
      unfold bldStep
      obtain ⟨ts, hts⟩ : ∃ ts, ts = bld (l.take n) := ⟨_, rfl⟩
      rw [← hts] at s1 s2 in1 e1 in2 e2 hx hlen ⊢
      obtain ⟨a, ha⟩ : ∃ a, a = atR ts p.2.1 := ⟨_, rfl⟩
      obtain ⟨b, hb'⟩ : ∃ b, b = atR ts p.2.2 := ⟨_, rfl⟩
      rw [← ha] at in1 e1 hx ⊢
      rw [← hb'] at in2 e2 hx ⊢
      have hab : a ≠ b := fun e => hne (by rw [← e1, ← e2, e])
      have hmk : DT.mk p.1.toNat a b = nd p.1.toNat a b := by unfold DT.mk; rw [if_neg hab]
      rw [hmk] at hx ⊢
      subst hx
      have hnin : nd p.1.toNat a b ∉ ts := by
        intro hm
        obtain ⟨j, hj, e⟩ := List.getElem_of_mem hm
        have hq : (ts.map (row ts))[j]? = some (row ts (nd p.1.toNat a b)) := by rw [List.getElem?_map, List.getElem?_eq_getElem hj, e]; rfl
        rw [s2, List.getElem?_take, if_pos (by omega)] at hq
        refine hdup j _ (by omega) hq ?_
        simp only [row, e1, e2]
        refine Prod.ext ?_ rfl
        show ((p.1.toNat : Nat) : Int) = p.1
        omega
      refine ⟨s1.snoc hnin in1 in2 hro, ?_⟩
      have hp' : ts <+: ts ++ [nd p.1.toNat a b] := List.prefix_append _ _
      rw [List.map_append, s1.1.row_mono hp', s2, List.take_add_one, hp]
      simp only [List.map_cons, List.map_nil, row, ref_mono in1 hp', ref_mono in2 hp', e1, e2, Option.toList_some]
      congr 2
      refine Prod.ext ?_ rfl
      show ((p.1.toNat : Nat) : Int) = p.1
      omega
  have := key l.length (Nat.le_refl _)
  rwa [List.take_length] at this

theorem CanonD.strict {l : List NRow} {r : Int} (h : CanonD l r) : ∀ i p, l[i]? = some p → OneOk l i p := by
  obtain ⟨x, hx, rfl, rfl⟩ := h
  have f := ser_seq x [] hx Seq.nil
  intro i p hp
  rw [List.getElem?_map, Option.map_eq_some_iff] at hp
  obtain ⟨y, hy, rfl⟩ := hp
  obtain ⟨v, a, b, rfl, h1, h2, h3⟩ := f.1.parts y (List.mem_of_getElem? hy)
  refine ⟨fun e => h3.2.1 (ref_inj h1 h2 e), fun j q hj hq e => ?_⟩
  rw [List.getElem?_map, Option.map_eq_some_iff] at hq
  obtain ⟨z, hz, rfl⟩ := hq
  obtain ⟨w, c, d, rfl, g1, g2, _⟩ := f.1.parts z (List.mem_of_getElem? hz)
  simp only [row, Prod.mk.injEq] at e
  obtain ⟨e1, e2, e3⟩ := e
  have e4 := ref_inj g1 h1 e2
  have e5 := ref_inj g2 h2 e3
  have e6 : w = v := by omega
  subst e4 e5 e6
  have := ref_idx f.1 hz
  rw [ref_idx f.1 hy] at this
  omega

/-- The last of a walk is the tree itself. -/
theorem ser_last {v : Nat} {l h : DT} : ∃ st, ser (nd v l h) [] = st ++ [nd v l h] ∧ nd v l h ∉ st := by
  refine ⟨ser h (ser l []), ?_, ser_new (by simp)⟩
  simp only [ser]
  rw [if_neg (by simp)]
theorem CanonD.root {l : List NRow} {r : Int} (h : CanonD l r) : if l = [] then r = -1 ∨ r = -2 else r = (l.length : Int) - 1 := by
  obtain ⟨x, hx, rfl, rfl⟩ := h
  cases x with
  | leaf b => cases b <;> simp [ser, ref]
  | nd v a b =>
    obtain ⟨st, e, hn⟩ := ser_last (v := v) (l := a) (h := b)
    rw [e, if_neg (by simp), ref_new hn]
    simp
theorem ser_sub {st : List DT} (f : Fin st) : ∀ (x : DT) (acc : List DT), In st x → (∀ y ∈ acc, y ∈ st) → ∀ y ∈ ser x acc, y ∈ st
  | leaf _, acc, _, h, y, hy => h y hy
  | nd v l r, acc, hx, h, y, hy => by
    have hm : nd v l r ∈ st := hx.elim (fun ⟨b, e⟩ => by cases e) id
    obtain ⟨_, _, _, e, h1, h2, _⟩ := f.parts _ hm
    cases e
    simp only [ser] at hy
    split at hy
    · exact h y hy
    · rcases List.mem_append.1 hy with hy | hy
      · exact ser_sub f r _ h2 (ser_sub f l _ h1 h) y hy
      · simp at hy; subst hy; exact hm
theorem ser_all {st : List DT} {x : DT} (hl : (ser x []).length = st.length) (hi : ∀ (i : Nat) (y : DT), (ser x [])[i]? = some y → ref st y = i) (hsub : ∀ y ∈ ser x [], y ∈ st) : ser x [] = st := by
  apply List.ext_getElem?
  intro i
  by_cases h : i < st.length
  · have hy : (ser x [])[i]? = some (ser x [])[i] := List.getElem?_eq_getElem (by omega)
    have e := hi i _ hy
    have hm : In st (ser x [])[i] := .inr (hsub _ (List.getElem_mem _))
    have hg := ref_get hm (by omega)
    rw [e, Int.toNat_natCast] at hg
    rw [hy, hg]
  · rw [List.getElem?_eq_none (by omega), List.getElem?_eq_none (by omega)]
end Go.AI
end
section
/- The reference's check of a diagram. -/
namespace Go.Proofs.Ytanaaabejeeakaa
open Go.AI Go.AI.DT

/-- The numbers of some nodes. -/
def refRows (st acc : List DT) : List (List AC) := acc.map fun y => [AC.int .i64 (ref st y)]
theorem refRow_at {st acc : List DT} {i : Nat} {y : DT} (h : acc[i]? = some y) : (refRows st acc)[i]? = some [AC.int .i64 (ref st y)] := by
  unfold refRows; rw [List.getElem?_map, h]; rfl

theorem numbered_c {st : List DT} {s : AC} {r0 : Int} {H0 : AHeap} (hs : SlR H0 s 3 (nodeRows (st.map (row st)))) (hfin : Fin st) (hlen : st.length ≤ 2000) : ∀ (x : DT) {H : AHeap} {Fo : Nat → Prop} {a : AC} {acc : List DT}, In st x → Old H0 H → OwnS H a 1 Fo (refRows st acc) → (∀ y, Fo y → H0.size ≤ y) → (∀ y ∈ acc, y ∈ st) → Fin acc →
    Fn.fetterlockref6_numbered s r0 (ref st x) a H fun H' q => ∃ Fo', OwnS H' q 1 Fo' (refRows st (ser x acc)) ∧ Keep Fo H H' ∧ ∀ y, Fo' y → Fo y ∨ H.size ≤ y := by
  intro x
  induction x with
  | leaf b =>
    intro H Fo a acc hx ho ha hFo hsub hfa
    refine fetterlockref6_numbered.run ?_
    unfold fetterlockref6_numbered.W
    refine New.own fun b1 H1 hb1 hs1 o1 k1 => CondB.pos ?_ ⟨Fo, ha.kp k1, k1.mono fun _ _ h => h.elim, fun y h => .inl h⟩
    rw [decide_eq_true_iff]; exact ref_leaf.2 ⟨b, rfl⟩
  | nd v l h ihl ihh =>
    intro H Fo a acc hx ho ha hFo hsub hfa
    have h0 : 0 ≤ ref st (nd v l h) := by rw [ref_ge]; omega
    have hg := ref_get hx h0
    have hxm : nd v l h ∈ st := List.mem_of_getElem? hg
    obtain ⟨inl, inh, hro⟩ : In st l ∧ In st h ∧ (nd v l h).RO := by
      obtain ⟨_, _, _, e0, a1, a2, a3⟩ := hfin.parts _ hxm
      cases e0
      exact ⟨a1, a2, a3⟩
    have hrow : (nodeRows (st.map (row st)))[(ref st (nd v l h)).toNat]? = some (nodeCells ((v : Int), ref st l, ref st h)) := nodeRow_at (by rw [List.getElem?_map, hg]; rfl)
    refine fetterlockref6_numbered.run ?_
    unfold fetterlockref6_numbered.W
    refine New.own fun b1 H1 hb1 hs1 o1 k1 => CondB.neg (by rw [decide_eq_false_iff_not]; omega) ?_
    have ho1 := ho.kp k1
    have ha1 := ha.kp k1
    have hal : acc.length ≤ 2000 := Nat.le_trans (hfa.nodup.length_le_of_subset fun y hy => hsub y hy) hlen
    have hz0 := ho.1
    unfold fetterlockref6_numbered.l14
    refine LoopT.rule (fun m s0 H2 => ∃ i : Nat, i ≤ acc.length ∧ m = acc.length - i ∧ s0 = (ref st (nd v l h), a, .ptr (some (b1, 0)), (i : Int), ()) ∧ H2 = H1 ∧ ∀ j y, j < i → acc[j]? = some y → y ≠ nd v l h) acc.length ⟨0, by omega, by omega, rfl, rfl, fun j y hj => by omega⟩ ?_
    rintro m s0 H2 back ⟨i, hi, rfl, rfl, rfl, hall⟩ hback
    simp only [fetterlockref6_numbered.b14]
    refine LenS.of ha1.slr ?_
    rw [show (refRows st acc).length = acc.length from List.length_map ..]
    refine CondB.dec (fun hlt => ?_) fun hge => ?_
    · have hi' : i < acc.length := by omega
      obtain ⟨y, hy⟩ : ∃ b, acc[i]? = some b := ⟨_, List.getElem?_eq_getElem hi'⟩
      have hym := hsub y (List.mem_of_getElem? hy)
      refine IA.of ha1.slr (by omega) (by rw [Int.toNat_natCast]; exact refRow_at hy) fun b o hld => Ld.a1 hld (ref st y) rfl rfl ?_
      refine CondB.mk (fun hc => ?_) fun hc => ?_
      · have he : y = nd v l h := ref_inj (.inr hym) hx (by simpa using hc)
        have hser : ser (nd v l h) acc = acc := by simp only [ser]; rw [if_pos (by rw [← he]; exact List.mem_of_getElem? hy)]
        exact ⟨Fo, by rw [hser]; exact ha1, k1.mono fun _ _ h => h.elim, fun y h => .inl h⟩
      · refine hback (acc.length - (i + 1)) _ _ (by omega) ⟨i + 1, by omega, rfl, ?_, rfl, fun j z hj hz => ?_⟩
        · exact tc rfl (tc rfl (tc rfl (tc ((wrap64 (by omega) (by omega)).trans (by omega)) rfl)))
        · by_cases hji : j = i
          · subst hji
            rw [hy] at hz
            cases hz
            intro e
            rw [e] at hc
            simp at hc
          · exact hall j z (by omega) hz
    · have hnin : nd v l h ∉ acc := fun hm => by
        obtain ⟨j, hj, e⟩ := List.getElem_of_mem hm
        exact hall j _ (by omega) (List.getElem?_eq_getElem hj) e
      have hser : ser (nd v l h) acc = ser h (ser l acc) ++ [nd v l h] := by simp only [ser]; rw [if_neg hnin]
      refine Ld.o2 o1 s r0 rfl (FA.mk (Ld.oc o1 rfl (IA.of (hs.old ho1) h0 hrow fun b o hld => FA.mk (Ld.ei hld rfl ?_))))
      refine RunT.imp ?_ (ihl inl ho1 ha1 hFo hsub hfa)
      rintro H3 (q : AC) ⟨Fo3, ha3, k3, fr3⟩
      have ho3 := ho1.keep k3 hFo
      have hb1lt := o1.lt
      have hnb : ¬ Fo b1 := fun e => by have := ha.lt b1 e; omega
      have o13 := o1.keep k3 hnb
      have hFo3 : ∀ y, Fo3 y → H0.size ≤ y := fun y e => (fr3 y e).elim (hFo y) fun e => by have := k1.size; omega
      refine Ld.o2 o13 s r0 rfl (FA.mk (Ld.oc o13 rfl (IA.of (hs.old ho3) h0 hrow fun b o hld => FA.mk (Ld.ei hld rfl ?_))))
      have hsub3 := ser_sub hfin l acc inl hsub
      have hfa3 := ser_fin l acc hro.2.2.2.2.1 hfa
      refine RunT.imp ?_ (ihh inh ho3 ha3 hFo3 hsub3 hfa3)
      rintro H4 (q2 : AC) ⟨Fo4, ha4, k4, fr4⟩
      have hsub4 := ser_sub hfin h _ inh hsub3
      have hfa4 := ser_fin h _ hro.2.2.2.2.2 hfa3
      have hl4 : (ser h (ser l acc)).length ≤ 2000 := Nat.le_trans (hfa4.nodup.length_le_of_subset fun y hy => hsub4 y hy) hlen
      have hrl : (refRows st (ser h (ser l acc))).length = (ser h (ser l acc)).length := List.length_map ..
      refine NewS.own fun pb H5 hpb hs5 op k5 => ?_
      refine App.own (ha4.kp k5) (r := [AC.int .i64 (ref st (nd v l h))]) ⟨pb, _, rfl, op.all⟩ rfl (by rw [hrl]; omega) (by rw [hrl]; omega) fun s6 H6 sl6 k6 hs6 => ?_
      have hz1 := k1.size
      have hz3 := k3.size
      have hz4 := k4.size
      refine ⟨_, by rw [hser]; unfold refRows at sl6 ⊢; rw [List.map_append]; exact sl6, ?_, ?_⟩
      · have t1 : Keep Fo H H3 := Kp.andThen k1 k3
        have t2 : Keep Fo H H4 := Keep.trans t1 k4 fun y hy e => (fr3 y e).elim id fun e => by omega
        exact Keep.trans (Keep.trans' t2 k5) k6 fun y hy e => (fr4 y e).elim (fun e => (fr3 y e).elim id fun e => by omega) fun e => by omega
      · rintro y (e | e)
        · rcases fr4 y e with e | e
          · rcases fr3 y e with e | e
            · exact .inl e
            · exact .inr (by omega)
          · exact .inr (by omega)
        · exact .inr (by omega)

theorem DiagramFault_c {s : AC} {l : List NRow} {r : Int} {H : AHeap} (hs : SlR H s 3 (nodeRows l)) :
    Fn.fetterlockref6_DiagramFault s r H fun H' q => q = dFault l r ∧ Kp H H' := by
  refine fetterlockref6_DiagramFault.run ?_
  unfold fetterlockref6_DiagramFault.W
  refine New.own fun b1 H1 hb1 hs1 o1 k1 => FA.mk (Ld.oc o1 rfl (LenS.of (hs.kp k1) ?_))
  rw [nodeRows_len]
  refine CondB.dec (fun hgt => ⟨?_, k1⟩) fun hle => ?_
  · unfold dFault; rw [if_pos (by omega)]
  have hlen : l.length ≤ 2000 := by omega
  unfold fetterlockref6_DiagramFault.l14
  refine LoopT.rule (fun m s0 H2 => ∃ i : Nat, i ≤ l.length ∧ m = l.length - i ∧ s0 = (.ptr (some (b1, 0)), (i : Int), ()) ∧ Kp H H2 ∧ Own H2 b1 [s, .int .i64 r] ∧ scan 0 l = scan i (l.drop i)) l.length
    ⟨0, by omega, by omega, rfl, k1, o1, rfl⟩ ?_
  rintro m s0 H2 back ⟨i, hi, rfl, rfl, k2, o12, hsc⟩ hback
  simp only [fetterlockref6_DiagramFault.b14]
  refine FA.mk (Ld.oc o12 rfl (LenS.of (hs.kp k2) ?_))
  rw [nodeRows_len]
  refine CondB.dec (fun hlt => ?_) fun hge => ?_
  · have hi' : i < l.length := by omega
    obtain ⟨p, hp⟩ : ∃ b, l[i]? = some b := ⟨_, List.getElem?_eq_getElem hi'⟩
    rw [scan_drop hp] at hsc
    refine FA.mk (Ld.oc o12 rfl (IA.of (hs.kp k2) (by omega) (by rw [Int.toNat_natCast]; exact nodeRow_at hp) fun b o hld => Ld.a3 hld p.1 p.2.1 p.2.2 rfl rfl ?_))
    refine NewSto.own rfl fun nb H3 hnb hs3 on k3 => FA.mk (Ld.oi on rfl ?_)
    have kk := k2.trans k3
    unfold fetterlockref6_DiagramFault.p28
    refine CondB.dec (fun h0 => CondB.pos rfl ⟨?_, kk⟩) fun h0 => FA.mk (Ld.oi on rfl (CondB.dec (fun h1 => ⟨?_, kk⟩) fun h1 => ?_))
    · rw [if_pos (.inl h0)] at hsc; exact (dFault_scan hlen hsc (by omega)).symm
    · rw [if_pos (.inr (by omega))] at hsc; exact (dFault_scan hlen hsc (by omega)).symm
    rw [if_neg (by omega)] at hsc
    unfold fetterlockref6_DiagramFault.p35
    refine FA.mk (Ld.oi on rfl (CondB.dec (fun h2 => CondB.pos rfl ⟨?_, kk⟩) fun h2 => FA.mk (Ld.oi on rfl (CondB.dec (fun h3 => CondB.pos rfl ⟨?_, kk⟩) fun h3 => FA.mk (Ld.oi on rfl (CondB.dec (fun h4 => CondB.pos rfl ⟨?_, kk⟩) fun h4 => FA.mk (Ld.oi on rfl (CondB.dec (fun h5 => ⟨?_, kk⟩) fun h5 => ?_))))))))
    · rw [if_pos (by omega)] at hsc; exact (dFault_scan hlen hsc (by omega)).symm
    · rw [if_pos (by omega)] at hsc; exact (dFault_scan hlen hsc (by omega)).symm
    · rw [if_pos (by omega)] at hsc; exact (dFault_scan hlen hsc (by omega)).symm
    · rw [if_pos (by omega)] at hsc; exact (dFault_scan hlen hsc (by omega)).symm
    rw [if_neg (by omega)] at hsc
    refine hback (l.length - (i + 1)) _ _ (by omega) ⟨i + 1, by omega, rfl, ?_, kk, o12.kp k3, hsc⟩
    exact tc rfl (tc ((wrap64 (by omega) (by omega)).trans (by omega)) rfl)
  have hsc0 : scan 0 l = 0 := by
    rw [hsc, List.drop_eq_nil_iff.2 (by omega)]; rfl
  have hnum : ∀ j p, l[j]? = some p → NumOk j p := fun j p hp => by have := scan_ok.1 hsc0 j p hp; rwa [Nat.zero_add] at this
  unfold fetterlockref6_DiagramFault.l45
  refine LoopT.rule (fun m s0 H3 => ∃ i : Nat, i ≤ l.length ∧ m = l.length - i ∧ s0 = (.ptr (some (b1, 0)), (i : Int), ()) ∧ Kp H H3 ∧ Own H3 b1 [s, .int .i64 r] ∧ ∀ j p, j < i → l[j]? = some p → OrdOk l p ∧ OneOk l j p) l.length
    ⟨0, by omega, by omega, rfl, k2, o12, fun j p h => by omega⟩ ?_
  clear hback back
  rintro m s0 H3 back ⟨i, hi, rfl, rfl, k3, o13, hord⟩ hback
  simp only [fetterlockref6_DiagramFault.b45]
  refine FA.mk (Ld.oc o13 rfl (LenS.of (hs.kp k3) ?_))
  rw [nodeRows_len]
  refine CondB.dec (fun hlt => ?_) fun hge => ?_
  · have hi' : i < l.length := by omega
    obtain ⟨p, hp⟩ : ∃ b, l[i]? = some b := ⟨_, List.getElem?_eq_getElem hi'⟩
    have hn := hnum i p hp
    unfold NumOk at hn
    obtain ⟨n1, n2, n3, n4, n5, n6⟩ := hn
    refine FA.mk (Ld.oc o13 rfl (IA.of (hs.kp k3) (by omega) (by rw [Int.toNat_natCast]; exact nodeRow_at hp) fun b o hld => Ld.a3 hld p.1 p.2.1 p.2.2 rfl rfl ?_))
    refine NewSto.own rfl fun nb H4 hnb hs4 on k4 => FA.mk (Ld.oi on rfl (FA.mk (Ld.oi on rfl ?_)))
    have kk := k3.trans k4
    have o14 := o13.kp k4
    have badR : ¬ CanonD l r → fetterlockref6_DiagramFault.p59 (fun H' q => q = dFault l r ∧ Kp H H') back (.ptr (some (b1, 0))) (i : Int) (.ptr (some (nb, 0))) true H4 := by
      intro h
      unfold fetterlockref6_DiagramFault.p59
      exact CondB.pos rfl ⟨(dFault_two hlen hsc0 h).symm, kk⟩
    have goodR : OrdOk l p → p.2.1 ≠ p.2.2 → fetterlockref6_DiagramFault.p59 (fun H' q => q = dFault l r ∧ Kp H H') back (.ptr (some (b1, 0))) (i : Int) (.ptr (some (nb, 0))) false H4 := by
      intro h1 h2
      unfold fetterlockref6_DiagramFault.p59
      refine CondB.neg rfl ?_
      unfold fetterlockref6_DiagramFault.l67
      refine LoopT.rule (fun m s0 H6 => ∃ k : Nat, k ≤ i ∧ m = i - k ∧ s0 = (.ptr (some (b1, 0)), (i : Int), .ptr (some (nb, 0)), (k : Int), ()) ∧ H6 = H4 ∧ ∀ j q, j < k → l[j]? = some q → q ≠ p) i ⟨0, by omega, rfl, rfl, rfl, fun j q h => by omega⟩ ?_
      rintro m s0 H6 back2 ⟨k, hk, rfl, rfl, rfl, hdup⟩ hback2
      simp only [fetterlockref6_DiagramFault.b67]
      refine CondB.dec (fun hlt2 => ?_) fun hge2 => ?_
      · obtain ⟨q, hq⟩ : ∃ b, l[k]? = some b := ⟨_, List.getElem?_eq_getElem (by omega)⟩
        refine FA.mk (Ld.oc o14 rfl (IA.of (hs.kp kk) (by omega) (by rw [Int.toNat_natCast]; exact nodeRow_at hq) fun b o hld => Ld.a3 hld q.1 q.2.1 q.2.2 rfl rfl (Ld.o3 on p.1 p.2.1 p.2.2 rfl ?_)))
        refine CondB.mk (fun hc => ⟨?_, kk⟩) fun hc => ?_
        · have e : q = p := by
            simp only [decide_eq_true_eq, List.cons.injEq, and_true] at hc
            exact Prod.ext hc.1 (Prod.ext hc.2.1 hc.2.2)
          exact (dFault_two hlen hsc0 fun hcan => (hcan.strict i p hp).2 k q (by omega) hq e).symm
        · refine hback2 (i - (k + 1)) _ _ (by omega) ⟨k + 1, by omega, rfl, ?_, rfl, fun j z hj hz => ?_⟩
          · exact tc rfl (tc rfl (tc rfl (tc ((wrap64 (by omega) (by omega)).trans (by omega)) rfl)))
          · by_cases hjk : j = k
            · subst hjk
              rw [hq] at hz
              cases hz
              rintro rfl
              simp at hc
            · exact hdup j z (by omega) hz
      · refine hback (l.length - (i + 1)) _ _ (by omega) ⟨i + 1, by omega, rfl, ?_, kk, o14, fun j q hj hq => ?_⟩
        · exact tc rfl (tc ((wrap64 (by omega) (by omega)).trans (by omega)) rfl)
        · by_cases hji : j = i
          · subst hji
            rw [hp] at hq
            cases hq
            exact ⟨h1, h2, fun j' q' hj' hq' => hdup j' q' (by omega) hq'⟩
          · exact hord j q (by omega) hq
    refine CondB.eq (fun he => badR fun hcan => (hcan.strict i p hp).1 he) fun hne => ?_
    -- a part's variable
    have part : ∀ (c : Int) (k : AHeap → Bool → Prop), 0 ≤ c → c < l.length → (∀ q, l[c.toNat]? = some q → k H4 (decide (q.1 ≤ p.1))) →
        FA 0 (.ptr (some (b1, 0))) fun q_30 => Ld [.ac] H4 q_30 fun (v_31 : AC) => IA 3 v_31 c fun q_34 => FA 0 q_34 fun q_35 => Ld [.int .i64] H4 q_35 fun (v_36 : Int) =>
          FA 0 (.ptr (some (nb, 0))) fun q_37 => Ld [.int .i64] H4 q_37 fun (v_38 : Int) => k H4 (decide (v_36 ≤ v_38)) := by
      intro c k h0 h1 hk
      obtain ⟨q, hq⟩ : ∃ b, l[c.toNat]? = some b := ⟨_, List.getElem?_eq_getElem (by omega)⟩
      exact FA.mk (Ld.oc o14 rfl (IA.of (hs.kp kk) h0 (nodeRow_at hq) fun b o hld => FA.mk (Ld.ei hld rfl (FA.mk (Ld.oi on rfl (hk q hq))))))
    have badO : ∀ q, (0 ≤ p.2.1 ∧ l[p.2.1.toNat]? = some q ∨ 0 ≤ p.2.2 ∧ l[p.2.2.toNat]? = some q) → q.1 ≤ p.1 → ¬ CanonD l r := by
      intro q hq hle hcan
      have := (hcan.of.1 i p hp).2
      rcases hq with ⟨h0, hq⟩ | ⟨h0, hq⟩
      · have := this.1 q h0 hq; omega
      · have := this.2 q h0 hq; omega
    have second : (∀ q, 0 ≤ p.2.1 → l[p.2.1.toNat]? = some q → p.1 < q.1) → 0 ≤ p.2.2 → ∀ q, l[p.2.2.toNat]? = some q → fetterlockref6_DiagramFault.p59 (fun H' q => q = dFault l r ∧ Kp H H') back (.ptr (some (b1, 0))) (i : Int) (.ptr (some (nb, 0))) (decide (q.1 ≤ p.1)) H4 := by
      intro h1 h0 q hq
      by_cases hle : q.1 ≤ p.1
      · rw [decide_eq_true hle]; exact badR (badO q (.inr ⟨h0, hq⟩) hle)
      · rw [decide_eq_false hle]
        refine goodR ⟨h1, fun q' _ hq' => ?_⟩ hne
        rw [hq] at hq'; cases hq'; omega
    refine FA.mk (Ld.oi on rfl (CondB.dec (fun h1 => ?_) fun h1 => ?_))
    · obtain ⟨q1, hq1⟩ : ∃ b, l[p.2.1.toNat]? = some b := ⟨_, List.getElem?_eq_getElem (by omega)⟩
      refine FA.mk (Ld.oc o14 rfl (FA.mk (Ld.oi on rfl (IA.of (hs.kp kk) h1 (nodeRow_at hq1) fun b o hld => FA.mk (Ld.ei hld rfl (FA.mk (Ld.oi on rfl ?_)))))))
      refine CondB.dec (fun h2 => badR (badO q1 (.inl ⟨h1, hq1⟩) h2)) fun h2 => ?_
      have hlo : ∀ q, 0 ≤ p.2.1 → l[p.2.1.toNat]? = some q → p.1 < q.1 := fun q _ hq => by rw [hq1] at hq; cases hq; omega
      refine FA.mk (Ld.oi on rfl (CondB.dec (fun h3 => ?_) fun h3 => goodR ⟨hlo, fun q h0 => by omega⟩ hne))
      obtain ⟨q2, hq2⟩ : ∃ b, l[p.2.2.toNat]? = some b := ⟨_, List.getElem?_eq_getElem (by omega)⟩
      exact FA.mk (Ld.oc o14 rfl (FA.mk (Ld.oi on rfl (IA.of (hs.kp kk) h3 (nodeRow_at hq2) fun b o hld => FA.mk (Ld.ei hld rfl (FA.mk (Ld.oi on rfl (second hlo h3 q2 hq2))))))))
    · have hlo : ∀ q, 0 ≤ p.2.1 → l[p.2.1.toNat]? = some q → p.1 < q.1 := fun q h0 => by omega
      refine FA.mk (Ld.oi on rfl (CondB.dec (fun h3 => ?_) fun h3 => goodR ⟨hlo, fun q h0 => by omega⟩ hne))
      obtain ⟨q2, hq2⟩ : ∃ b, l[p.2.2.toNat]? = some b := ⟨_, List.getElem?_eq_getElem (by omega)⟩
      exact FA.mk (Ld.oc o14 rfl (FA.mk (Ld.oi on rfl (IA.of (hs.kp kk) h3 (nodeRow_at hq2) fun b o hld => FA.mk (Ld.ei hld rfl (FA.mk (Ld.oi on rfl (second hlo h3 q2 hq2))))))))
  have hall : ∀ j p, l[j]? = some p → OrdOk l p ∧ OneOk l j p := fun j p hp => hord j p (by have := (List.getElem?_eq_some_iff.1 hp).1; omega) hp
  have hok : RowsOk l := fun j p hp => ⟨hnum j p hp, (hall j p hp).1⟩
  obtain ⟨hseq, hrows⟩ := strict_seq hok fun j p hp => (hall j p hp).2
  refine FA.mk (Ld.oc o13 rfl (LenS.of (hs.kp k3) ?_))
  rw [nodeRows_len]
  unfold fetterlockref6_DiagramFault.p92
  refine CondB.eq (fun h0 => ?_) fun h0 => ?_
  · have hl0 : l = [] := List.eq_nil_of_length_eq_zero (by omega)
    have leafC : ∀ b : Bool, r = ref [] (leaf b) → CanonD l r := fun b e => ⟨leaf b, trivial, by rw [hl0]; rfl, by rw [e]; cases b <;> rfl⟩
    refine FA.mk (Ld.oi o13 rfl (CondB.ne (fun h1 => FA.mk (Ld.oi o13 rfl (CondB.ne (fun h2 => ⟨?_, k3⟩) fun h2 => ⟨?_, k3⟩))) fun h1 => CondB.neg rfl ⟨?_, k3⟩))
    · exact (dFault_two hlen hsc0 fun hcan => by
        have := hcan.root
        rw [if_pos hl0] at this
        omega).symm
    · exact (dFault_zero hlen (leafC true h2)).symm
    · exact (dFault_zero hlen (leafC false h1)).symm
  · have hl0 : l ≠ [] := fun e => h0 (by rw [e]; rfl)
    have hpos : 0 < l.length := List.length_pos_iff.2 hl0
    refine FA.mk (Ld.oi o13 rfl (FA.mk (Ld.oc o13 rfl (LenS.of (hs.kp k3) ?_))))
    rw [nodeRows_len, show IntKind.wrap .i64 ((l.length : Int) - 1) = (l.length : Int) - 1 from wrap64 (by omega) (by omega)]
    refine CondB.ne (fun h1 => ⟨?_, k3⟩) fun h1 => ?_
    · exact (dFault_two hlen hsc0 fun hcan => by
        have := hcan.root
        rw [if_neg hl0] at this
        exact h1 this).symm
    obtain ⟨st, hst⟩ : ∃ st, st = bld l := ⟨_, rfl⟩
    rw [← hst] at hseq hrows
    have hstl : st.length = l.length := by rw [hst, bld_len]
    obtain ⟨x, hx⟩ : ∃ x, x = st[l.length - 1]'(by omega) := ⟨_, rfl⟩
    have hget : st[l.length - 1]? = some x := by rw [hx]; exact List.getElem?_eq_getElem (by omega)
    have hxin : In st x := .inr (List.mem_of_getElem? hget)
    have hxref : ref st x = r := by rw [ref_idx hseq.1 hget]; omega
    have hsl : SlR H3 s 3 (nodeRows (st.map (row st))) := by rw [hrows]; exact hs.kp k3
    have hxro := hseq.1.ro hxin
    refine Ld.o2 o13 s r rfl (FA.mk (Ld.oi o13 rfl ?_))
    rw [← hxref]
    refine RunT.imp ?_ (numbered_c hsl hseq.1 (by omega) x hxin (Old.refl _) (OwnS.nil _ _) (fun y h => h.elim) (fun y h => by cases h) Fin.nil)
    rintro H4 (q : AC) ⟨Fo, ha, k4, fr⟩
    have k4' : Kp H3 H4 := k4.mono fun _ _ h => h
    have kk := k3.trans k4'
    have hrl : (refRows st (ser x [])).length = (ser x []).length := List.length_map ..
    have hsub := ser_sub hseq.1 x [] hxin fun y h => by cases h
    refine LenS.of ha.slr ?_
    rw [hrl]
    refine FA.mk (Ld.oc (o13.kp k4') rfl (LenS.of (hs.kp kk) ?_))
    rw [nodeRows_len, ← hxref] at *
    have canonX : CanonD l (ref st x) → ser x [] = st := by
      rintro ⟨y, hy, e1, e2⟩
      have f := ser_seq y [] hy Seq.nil
      have hst' : st = ser y [] := by rw [hst, e1, bld_rows f]
      have hxy : x = y := ref_inj hxin (by rw [hst']; exact ser_in y []) (by rw [e2, hst'])
      rw [hst', hxy]
    refine CondB.ne (fun h2 => ⟨?_, kk⟩) fun h2 => ?_
    · exact (dFault_two hlen hsc0 fun hcan => by rw [canonX hcan, hstl] at h2; exact h2 rfl).symm
    have hlx : (ser x []).length = st.length := by omega
    unfold fetterlockref6_DiagramFault.l123
    refine LoopT.rule (fun m s0 H6 => ∃ k : Nat, k ≤ l.length ∧ m = l.length - k ∧ s0 = (q, (k : Int), ()) ∧ H6 = H4 ∧ ∀ (j : Nat) (y : DT), j < k → (ser x [])[j]? = some y → ref st y = j) l.length ⟨0, by omega, rfl, rfl, rfl, fun j y h => by omega⟩ ?_
    rintro m s0 H6 back2 ⟨k, hk, rfl, rfl, rfl, hidx⟩ hback2
    simp only [fetterlockref6_DiagramFault.b123]
    refine LenS.of ha.slr ?_
    rw [hrl]
    refine CondB.dec (fun hlt2 => ?_) fun hge2 => ?_
    · obtain ⟨y, hy⟩ : ∃ y, (ser x [])[k]? = some y := ⟨_, List.getElem?_eq_getElem (by omega)⟩
      refine IA.of ha.slr (by omega) (by rw [Int.toNat_natCast]; exact refRow_at hy) fun b o hld => Ld.a1 hld (ref st y) rfl rfl ?_
      refine CondB.ne (fun h3 => ⟨?_, kk⟩) fun h3 => ?_
      · exact (dFault_two hlen hsc0 fun hcan => by
          rw [canonX hcan] at hy
          exact h3 (ref_idx hseq.1 hy)).symm
      · refine hback2 (l.length - (k + 1)) _ _ (by omega) ⟨k + 1, by omega, rfl, ?_, rfl, fun j z hj hz => ?_⟩
        · exact tc rfl (tc ((wrap64 (by omega) (by omega)).trans (by omega)) rfl)
        · by_cases hjk : j = k
          · subst hjk
            rw [hy] at hz
            cases hz
            exact h3
          · exact hidx j z (by omega) hz
    · have hser := ser_all hlx (fun j y hy => hidx j y (by have := (List.getElem?_eq_some_iff.1 hy).1; omega) hy) hsub
      refine ⟨(dFault_zero hlen ⟨x, hxro, ?_, ?_⟩).symm, kk⟩
      · rw [hser, hrows]
      · rw [hser]
end Go.Proofs.Ytanaaabejeeakaa
end
section
/- The reference's operations; the law that Apply and Not are these. -/
namespace Go.Proofs.Ytanaaabejeeakaa
open Go.AI Go.AI.DT

theorem tab_cells {g : (Nat → Bool) → Bool} {cs : List AC} (hl : cs.length = 65536) (h : ∀ j, j < 65536 → cs[j]? = some (.bool (g (rho j)))) : cs = (tabOf g).map AC.bool := by
  obtain ⟨N, hN⟩ : ∃ N : Nat, N = 65536 := ⟨_, rfl⟩
  unfold tabOf
  rw [← hN] at hl h ⊢
  apply List.ext_getElem?
  intro j
  by_cases hj : j < N
  · rw [h j hj, List.getElem?_map, List.getElem?_map, List.getElem?_range hj]; rfl
  · rw [List.getElem?_eq_none (by omega), List.getElem?_eq_none (by rw [List.length_map, List.length_map, List.length_range]; omega)]
theorem tab_own {H : AHeap} {tb : Nat} {cap : Option Nat} {g : (Nat → Bool) → Bool} (h : Own H tb ((tabOf g).map AC.bool)) : SlR H (.sl (some (tb, 0)) 1 65536 cap) 1 (boolRows (tabOf g)) := by
  have e : ((tabOf g).map AC.bool).length = 65536 := by rw [List.length_map]; exact tabOf_len g
  have := h.slr cap
  rw [e, List.map_map] at this
  exact this
theorem tab_cell {g : (Nat → Bool) → Bool} {i : Nat} (hi : i < 65536) : ((tabOf g).map AC.bool)[i]? = some (.bool (g (rho i))) := by
  rw [List.getElem?_map, tabOf_get g i hi]; rfl
theorem eval_congr16 {ρ ρ' : Nat → Bool} (h : ∀ v, v < 16 → ρ v = ρ' v) : ∀ x : DT, x.RO → x.eval ρ = x.eval ρ'
  | leaf _, _ => rfl
  | nd v l r, hr => by
    simp only [eval]
    rw [h v hr.1, eval_congr16 h l hr.2.2.2.2.1, eval_congr16 h r hr.2.2.2.2.2]

/-- The diagram of a table, asx an answer. -/
theorem OfTable_e {tb : Nat} {cap : Option Nat} {g : (Nat → Bool) → Bool} {H : AHeap} (h : Own H tb ((tabOf g).map AC.bool)) (hg : ∀ ρ ρ' : Nat → Bool, (∀ v, v < 16 → ρ v = ρ' v) → g ρ = g ρ') :
    Fn.fetterlockref6_OfTable (.sl (some (tb, 0)) 1 65536 cap) H fun H' ns root err => ERes H H' 0 g ns root err ∧ Kp H H' := by
  refine RunT.imp ?_ (OfTable_c (tab_own h) (tabOf_len g))
  intro H' ns root err hh
  have key : ∃ t, t = tree 16 (tabOf g) ∧ t.RO ∧ ∀ ρ, t.eval ρ = g ρ := ⟨_, rfl, tabOf_tree hg⟩
  obtain ⟨t, ht, h1, h2⟩ := key
  rw [← ht] at hh
  exact ⟨.inr ⟨rfl, t, h1, h2, hh.1⟩, hh.2⟩

/-- A diagram that is taken is that of a tree. -/
theorem dTree {l : List NRow} {r : Int} (h : dFault l r = 0) : ∃ x : DT, x.RO ∧ (ser x []).length ≤ 2000 ∧ l = rowsOf x ∧ r = ref (ser x []) x ∧ ∀ ρ, dVal l r ρ = x.eval ρ := by
  obtain ⟨h1, h2⟩ := dFault_len h
  have hx := h2.of
  refine ⟨atR (bld l) r, hx.2.2.2.1, ?_, hx.2.2.2.2.1, hx.2.2.2.2.2, fun ρ => rfl⟩
  have := congrArg List.length hx.2.2.2.2.1
  rw [List.length_map] at this
  omega

theorem Negated_c {ra : Int} {sa : AC} {la : List NRow} {H : AHeap} (ha : SlR H sa 3 (nodeRows la)) :
    Fn.fetterlockref6_Negated sa ra H fun H' ns root err => ERes H H' (dFault la ra) (fun ρ => !dVal la ra ρ) ns root err ∧ Kp H H' := by
  refine fetterlockref6_Negated.run ?_
  unfold fetterlockref6_Negated.W
  refine New.own fun b1 H1 hb1 hs1 o1 k1 => New.own fun b3 H3 hb3 hs3 o3 k3 => Ld.o2 (o1.kp k3) sa ra rfl ?_
  have kk := k1.trans k3
  refine RunT.imp ?_ (DiagramFault_c (ha.kp kk))
  rintro H4 (q : Int) ⟨rfl, k4⟩
  have kk4 := kk.trans k4
  have hz4 := kk4.size
  have hz1 := k1.size
  refine CondB.ne (fun hne => ?_) fun he => ?_
  · refine Sto.own (o3.kp k4) (Nat.le_refl 2) fun H5 o5 k5 hs5 => ?_
    exact Ld.o2 o5 (.sl none 0 0 (some 0)) (0 : Int) rfl ⟨.inl ⟨hne, rfl, rfl, SlR.nil _ _⟩, kk4.fresh k5 fun y e => by have e' : y = b3 := e; omega⟩
  · obtain ⟨x, hx, hxl, rfl, rfl, hval⟩ := dTree he
    refine Ld.o2 ((o1.kp k3).kp k4) sa (ref (ser x []) x) rfl (RunT.imp ?_ (DiagramTable_c hx (ha.kp kk4)))
    rintro H5 (r : AC) ⟨⟨tb, cap, rfl, hot, htb⟩, k5⟩
    have kk5 := kk4.trans k5
    obtain ⟨N, hN⟩ : ∃ N : Nat, N = 65536 := ⟨_, rfl⟩
    have hb34 := (o3.kp k4).lt
    have hcell : ∀ j, j < N → ((tabOf x.eval).map AC.bool)[j]? = some (.bool (x.eval (rho j))) := fun j hj => tab_cell (by omega)
    have hcl0 : ((tabOf x.eval).map AC.bool).length = N := by rw [List.length_map, hN]; exact tabOf_len x.eval
    obtain ⟨cs0, hcs0⟩ : ∃ cs, cs = (tabOf x.eval).map AC.bool := ⟨_, rfl⟩
    rw [← hcs0] at hot hcell hcl0
    rw [show (65536 : Nat) = N from hN.symm]
    unfold fetterlockref6_Negated.l18
    refine LoopT.rule (fun m s0 H6 => ∃ (i : Nat) (cs : List AC), i ≤ N ∧ m = N - i ∧ s0 = (.ptr (some (b3, 0)), .sl (some (tb, 0)) 1 N cap, (i : Int), ()) ∧ Kp H H6 ∧ Own H6 b3 [.sl none 0 0 (some 0), .int .i64 0] ∧ Own H6 tb cs ∧ cs.length = N ∧
      (∀ j, j < i → cs[j]? = some (.bool (!x.eval (rho j)))) ∧ ∀ j, i ≤ j → j < N → cs[j]? = some (.bool (x.eval (rho j)))) N ⟨0, cs0, by omega, by omega, rfl, kk5, (o3.kp k4).kp k5, hot, hcl0, fun j h => by omega, fun j _ h => hcell j h⟩ ?_
    rintro m s0 H6 back ⟨i, cs, hi, rfl, rfl, k6, o36, hot6, hcl, hlo, hhi⟩ hback
    simp only [fetterlockref6_Negated.b18]
    refine LenS.mk (CondB.dec (fun hlt => ?_) fun hge => ?_)
    · refine IA.mk (by omega) (by omega) (Ld.ob hot6 (by rw [Nat.zero_add, Nat.mul_one]; exact hhi i (Nat.le_refl _) (by omega)) (IA.mk (by omega) (by omega) ?_))
      refine Sto.cell hot6 (by rw [hcl]; omega) fun H7 hot7 k7 hs7 => ?_
      refine hback (N - (i + 1)) _ _ (by omega) ⟨i + 1, _, by omega, rfl, ?_, k6.fresh k7 fun y e => by have e' : y = tb := e; omega, o36.keep k7 (show ¬ b3 = tb by omega), hot7, by rw [List.length_set, hcl], fun j hj => ?_, fun j h1 h2 => ?_⟩
      · exact tc rfl (tc rfl (tc ((wrap64 (by omega) (by omega)).trans (by omega)) rfl))
      · simp only [Int.toNat_natCast, Nat.mul_one, Nat.zero_add]
        by_cases hji : j = i
        · subst hji; rw [List.getElem?_set_self (by omega)]
        · rw [List.getElem?_set_ne (by omega)]; exact hlo j (by omega)
      · simp only [Int.toNat_natCast, Nat.mul_one, Nat.zero_add]
        rw [List.getElem?_set_ne (by omega)]
        exact hhi j (by omega) h2
    · have hiN : i = N := by omega
      have hcs : cs = (tabOf fun ρ => !x.eval ρ).map AC.bool := tab_cells (by omega) fun j hj => hlo j (by omega)
      rw [hcs] at hot6
      rw [hN]
      refine RunT.imp ?_ (OfTable_e hot6 fun ρ ρ' h => by rw [eval_congr16 h x hx])
      rintro H8 (ns : AC) (root : Int) (err : Int) ⟨hres, k8⟩
      have hz6 := k6.size
      have hb6 := o36.lt
      refine Sto.own (o36.kp k8) (Nat.le_refl 2) fun H9 o9 k9 hs9 => Ld.o2 o9 ns root rfl ⟨?_, (k6.trans k8).fresh k9 fun y e => by have e' : y = b3 := e; omega⟩
      have hr := (hres.keep k9 fun y e => by have e' : y = b3 := e; omega).from hz6
      have hg : (fun ρ => !dVal (rowsOf x) (ref (ser x []) x) ρ) = fun ρ => !x.eval ρ := funext fun ρ => by rw [hval ρ]
      rw [he, hg]
      exact hr
end Go.Proofs.Ytanaaabejeeakaa
end
section
/- The reference's Apply; the law that Apply and Not are what is specified. -/
namespace Go.Proofs.Ytanaaabejeeakaa
open Go.AI Go.AI.DT

theorem opB_4 {op : Int} (h : op = 4) (a b : Bool) : opB op a b = if a then b else false := by unfold opB; rw [if_pos h]; cases a <;> rfl
theorem opB_5 {op : Int} (h : op = 5) (a b : Bool) : opB op a b = if a then true else b := by unfold opB; rw [if_neg (by omega), if_pos h]; cases a <;> rfl
theorem opB_6 {op : Int} (h4 : op ≠ 4) (h5 : op ≠ 5) (a b : Bool) : opB op a b = !(a == b) := by unfold opB; rw [if_neg h4, if_neg h5]; cases a <;> cases b <;> rfl

theorem Applied_c {op ra rb : Int} {sa sb : AC} {la lb : List NRow} {H : AHeap} (ha : SlR H sa 3 (nodeRows la)) (hb : SlR H sb 3 (nodeRows lb)) :
    Fn.fetterlockref6_Applied op sa ra sb rb H fun H' ns root err => ERes H H' (applyFault op la ra lb rb) (fun ρ => opB op (dVal la ra ρ) (dVal lb rb ρ)) ns root err ∧ Kp H H' := by
  refine fetterlockref6_Applied.run ?_
  unfold fetterlockref6_Applied.W
  refine New.own fun b1 H1 hb1 hs1 o1 k1 => New.own fun b2 H2 hb2 hs2 o2 k2 => New.own fun b3 H3 hb3 hs3 o3 k3 => ?_
  have kk := (k1.trans k2).trans k3
  have hz := kk.size
  have o13 := (o1.kp k2).kp k3
  have o23 := o2.kp k3
  have fail : ∀ (H4 : AHeap) (e : Int), Kp H H4 → Own H4 b3 [.sl none 0 0 (some 0), .int .i64 0] → e = applyFault op la ra lb rb → e ≠ 0 →
      Sto H4 (.ptr (some (b3, 0))) [(.sl none 0 0 (some 0)), (.int .i64 0)] fun H_1 => Ld [.ac, .int .i64] H_1 (.ptr (some (b3, 0))) fun (r0_2 : AC) (r1_3 : Int) =>
        ERes H H_1 (applyFault op la ra lb rb) (fun ρ => opB op (dVal la ra ρ) (dVal lb rb ρ)) r0_2 r1_3 e ∧ Kp H H_1 := by
    intro H4 e k4 o4 he h0
    refine Sto.own o4 (Nat.le_refl 2) fun H5 o5 k5 hs5 => ?_
    exact Ld.o2 o5 (.sl none 0 0 (some 0)) (0 : Int) rfl ⟨.inl ⟨by rw [← he]; exact h0, he, rfl, SlR.nil _ _⟩, k4.fresh k5 fun y e => by have e' : y = b3 := e; omega⟩
  have bad : op ≠ 4 ∧ op ≠ 5 ∧ op ≠ 6 → fetterlockref6_Applied.p5 (fun H' ns root err => ERes H H' (applyFault op la ra lb rb) (fun ρ => opB op (dVal la ra ρ) (dVal lb rb ρ)) ns root err ∧ Kp H H') op (.ptr (some (b1, 0))) (.ptr (some (b2, 0))) (.ptr (some (b3, 0))) true H3 := by
    intro h
    unfold fetterlockref6_Applied.p5
    exact CondB.pos rfl (fail H3 7 kk o3 (by unfold applyFault; rw [if_pos h]) (by omega))
  have good : ¬ (op ≠ 4 ∧ op ≠ 5 ∧ op ≠ 6) → fetterlockref6_Applied.p5 (fun H' ns root err => ERes H H' (applyFault op la ra lb rb) (fun ρ => opB op (dVal la ra ρ) (dVal lb rb ρ)) ns root err ∧ Kp H H') op (.ptr (some (b1, 0))) (.ptr (some (b2, 0))) (.ptr (some (b3, 0))) false H3 := by
    intro hop
    have hfault : applyFault op la ra lb rb = if dFault la ra ≠ 0 then dFault la ra else dFault lb rb := by unfold applyFault; rw [if_neg hop]
    unfold fetterlockref6_Applied.p5
    refine CondB.neg rfl (Ld.o2 o13 sa ra rfl (RunT.imp ?_ (DiagramFault_c (ha.kp kk))))
    rintro H4 (q : Int) ⟨rfl, k4⟩
    refine CondB.ne (fun hne => fail H4 _ (kk.trans k4) (o3.kp k4) (by rw [hfault, if_pos hne]) hne) fun h1 => ?_
    refine Ld.o2 (o23.kp k4) sb rb rfl (RunT.imp ?_ (DiagramFault_c (hb.kp (kk.trans k4))))
    rintro H5 (q : Int) ⟨rfl, k5⟩
    refine CondB.ne (fun hne => fail H5 _ ((kk.trans k4).trans k5) ((o3.kp k4).kp k5) (by rw [hfault, if_neg (by omega)]) hne) fun h2 => ?_
    have hb0 : applyFault op la ra lb rb = 0 := by rw [hfault, if_neg (by omega), h2]
    obtain ⟨x, hx, _, rfl, rfl, hvx⟩ := dTree h1
    obtain ⟨x2, hx2, _, rfl, rfl, hvx2⟩ := dTree h2
    have kk5 := (kk.trans k4).trans k5
    have hz5 := kk5.size
    have hb35 := ((o3.kp k4).kp k5).lt
    refine Ld.o2 ((o13.kp k4).kp k5) sa (ref (ser x []) x) rfl (RunT.imp ?_ (DiagramTable_c hx (ha.kp kk5)))
    rintro H6 (r : AC) ⟨⟨tb, cap, rfl, hot, htb⟩, k6⟩
    refine Ld.o2 (((o23.kp k4).kp k5).kp k6) sb (ref (ser x2 []) x2) rfl (RunT.imp ?_ (DiagramTable_c hx2 (hb.kp (kk5.trans k6))))
    rintro H7 (r : AC) ⟨⟨tb2, cap2, rfl, hot2, htb2⟩, k7⟩
    have kk7 := (kk5.trans k6).trans k7
    have hott := hot.lt
    obtain ⟨N, hN⟩ : ∃ N : Nat, N = 65536 := ⟨_, rfl⟩
    have hcell : ∀ j, j < N → ((tabOf x.eval).map AC.bool)[j]? = some (.bool (x.eval (rho j))) := fun j hj => tab_cell (by omega)
    have hcl0 : ((tabOf x.eval).map AC.bool).length = N := by rw [List.length_map, hN]; exact tabOf_len x.eval
    have hcell2 : ∀ j, j < N → ((tabOf x2.eval).map AC.bool)[j]? = some (.bool (x2.eval (rho j))) := fun j hj => tab_cell (by omega)
    obtain ⟨cs0, hcs0⟩ : ∃ cs, cs = (tabOf x.eval).map AC.bool := ⟨_, rfl⟩
    obtain ⟨cs2, hcs2⟩ : ∃ cs, cs = (tabOf x2.eval).map AC.bool := ⟨_, rfl⟩
    rw [← hcs0] at hot hcell hcl0
    rw [← hcs2] at hot2 hcell2
    rw [show (65536 : Nat) = N from hN.symm]
    unfold fetterlockref6_Applied.l38
    refine LoopT.rule (fun m s0 H8 => ∃ (i : Nat) (cs : List AC), i ≤ N ∧ m = N - i ∧ s0 = (op, .ptr (some (b3, 0)), .sl (some (tb, 0)) 1 N cap, .sl (some (tb2, 0)) 1 N cap2, (i : Int), ()) ∧ Kp H H8 ∧ Own H8 b3 [.sl none 0 0 (some 0), .int .i64 0] ∧ Own H8 tb cs ∧ Own H8 tb2 cs2 ∧ cs.length = N ∧
      (∀ j, j < i → cs[j]? = some (.bool (opB op (x.eval (rho j)) (x2.eval (rho j))))) ∧ ∀ j, i ≤ j → j < N → cs[j]? = some (.bool (x.eval (rho j)))) N ⟨0, cs0, by omega, by omega, rfl, kk7, (((o3.kp k4).kp k5).kp k6).kp k7, hot.kp k7, hot2, hcl0, fun j h => by omega, fun j _ h => hcell j h⟩ ?_
    rintro m s0 H8 back ⟨i, cs, hi, rfl, rfl, k8, o38, hot8, hot28, hcl, hlo, hhi⟩ hback
    simp only [fetterlockref6_Applied.b38]
    refine LenS.mk (CondB.dec (fun hlt => ?_) fun hge => ?_)
    · have hcx : cs[0 + (i : Int).toNat * 1]? = some (.bool (x.eval (rho i))) := by rw [Nat.zero_add, Nat.mul_one]; exact hhi i (Nat.le_refl _) (by omega)
      have hcy : cs2[0 + (i : Int).toNat * 1]? = some (.bool (x2.eval (rho i))) := by rw [Nat.zero_add, Nat.mul_one]; exact hcell2 i (by omega)
      have put : ∀ (c : Bool), c = opB op (x.eval (rho i)) (x2.eval (rho i)) → IA 1 (.sl (some (tb, 0)) 1 N cap) (i : Int) fun q_6 => Sto H8 q_6 [(.bool c)] fun H_7 =>
          back (op, .ptr (some (b3, 0)), .sl (some (tb, 0)) 1 N cap, .sl (some (tb2, 0)) 1 N cap2, IntKind.wrap .i64 ((i : Int) + 1), ()) H_7 := by
        intro c hc
        refine IA.mk (by omega) (by omega) ?_
        refine Sto.cell hot8 (by rw [hcl]; omega) fun H9 hot9 k9 hs9 => ?_
        refine hback (N - (i + 1)) _ _ (by omega) ⟨i + 1, _, by omega, rfl, ?_, k8.fresh k9 fun y e => by have e' : y = tb := e; omega, o38.keep k9 (show ¬ b3 = tb by omega), hot9, hot28.keep k9 (show ¬ tb2 = tb by omega), by rw [List.length_set, hcl], fun j hj => ?_, fun j h1 h2 => ?_⟩
        · exact tc rfl (tc rfl (tc rfl (tc rfl (tc ((wrap64 (by omega) (by omega)).trans (by omega)) rfl))))
        · simp only [Int.toNat_natCast, Nat.mul_one, Nat.zero_add]
          by_cases hji : j = i
          · subst hji; rw [List.getElem?_set_self (by omega), hc]
          · rw [List.getElem?_set_ne (by omega)]; exact hlo j (by omega)
        · simp only [Int.toNat_natCast, Nat.mul_one, Nat.zero_add]
          rw [List.getElem?_set_ne (by omega)]
          exact hhi j (by omega) h2
      refine CondB.eq (fun h4 => ?_) fun h4 => CondB.eq (fun h5 => ?_) fun h5 => ?_
      · refine IA.mk (by omega) (by omega) (Ld.ob hot8 hcx (CondB.mk (fun hc => ?_) fun hc => ?_))
        · exact IA.mk (by omega) (by omega) (Ld.ob hot28 hcy (put _ (by rw [opB_4 h4, hc]; rfl)))
        · exact put _ (by rw [opB_4 h4, hc]; rfl)
      · refine IA.mk (by omega) (by omega) (Ld.ob hot8 hcx (CondB.mk (fun hc => ?_) fun hc => ?_))
        · exact put _ (by rw [opB_5 h5, hc]; rfl)
        · exact IA.mk (by omega) (by omega) (Ld.ob hot28 hcy (put _ (by rw [opB_5 h5, hc]; rfl)))
      · refine IA.mk (by omega) (by omega) (Ld.ob hot8 hcx (IA.mk (by omega) (by omega) (Ld.ob hot28 hcy (put _ (by rw [opB_6 h4 h5])))))
    · have hiN : i = N := by omega
      have hcs : cs = (tabOf fun ρ => opB op (x.eval ρ) (x2.eval ρ)).map AC.bool := tab_cells (by omega) fun j hj => hlo j (by omega)
      rw [hcs] at hot8
      rw [hN]
      refine RunT.imp ?_ (OfTable_e hot8 fun ρ ρ' h => by rw [eval_congr16 h x hx, eval_congr16 h x2 hx2])
      rintro H9 (ns : AC) (root : Int) (err : Int) ⟨hres, k9⟩
      have hz8 := k8.size
      have hb8 := o38.lt
      refine Sto.own (o38.kp k9) (Nat.le_refl 2) fun H10 o10 k10 hs10 => Ld.o2 o10 ns root rfl ⟨?_, (k8.trans k9).fresh k10 fun y e => by have e' : y = b3 := e; omega⟩
      have hr := (hres.keep k10 fun y e => by have e' : y = b3 := e; omega).from hz8
      have hg : (fun ρ => opB op (dVal (rowsOf x) (ref (ser x []) x) ρ) (dVal (rowsOf x2) (ref (ser x2 []) x2) ρ)) = fun ρ => opB op (x.eval ρ) (x2.eval ρ) := funext fun ρ => by rw [hvx ρ, hvx2 ρ]
      rw [hb0, hg]
      exact hr
  refine CondB.ne (fun h4 => CondB.ne (fun h5 => ?_) fun h5 => ?_) fun h4 => ?_
  · by_cases h6 : op = 6
    · have := good (fun h => h.2.2 h6)
      rw [show (op != 6) = false from by rw [h6]; rfl]
      exact this
    · rw [show (op != 6) = true from by simpa using h6]
      exact bad ⟨h4, h5, h6⟩
  · exact good (fun h => h.2.1 h5)
  · exact good (fun h => h.1 h4)

theorem law3_c {op ra rb : Int} {sa sb : AC} {la lb : List NRow} {H : AHeap} (ha : SlR H sa 3 (nodeRows la)) (hb : SlR H sb 3 (nodeRows lb)) :
    Fn.fetterlocklaw6_BoolApplyMatchesSpec op sa ra sb rb H fun H' q => q = true ∧ Kp H H' := by
  refine fetterlocklaw6_BoolApplyMatchesSpec.run ?_
  unfold fetterlocklaw6_BoolApplyMatchesSpec.W
  refine New.own fun b1 H1 hb1 hs1 o1 k1 => New.own fun b2 H2 hb2 hs2 o2 k2 => Ld.o2 (o1.kp k2) sa ra rfl (Ld.o2 o2 sb rb rfl ?_)
  have kk2 := k1.trans k2
  refine RunT.imp ?_ (Apply_c (ha.kp kk2) (hb.kp kk2))
  rintro H3 (n1 : AC) (r1 : Int) (e1 : Int) ⟨res1, k3⟩
  refine NewSto.own rfl fun c1 H4 hc1 hs4 w1 k4 => ?_
  have k24 := k3.trans k4
  refine Ld.o2 ((o1.kp k2).kp k24) sa ra rfl (Ld.o2 (o2.kp k24) sb rb rfl (RunT.imp ?_ (Applied_c (ha.kp (kk2.trans k24)) (hb.kp (kk2.trans k24)))))
  rintro H5 (n2 : AC) (r2 : Int) (e2 : Int) ⟨res2, k5⟩
  refine NewSto.own rfl fun c2 H6 hc2 hs6 w2 k6 => ?_
  have k46 := k5.trans k6
  have k26 := k24.trans k46
  refine Ld.o2 ((o1.kp k2).kp k26) sa ra rfl (RunT.imp ?_ (Not_c (ha.kp (kk2.trans k26))))
  rintro H7 (n3 : AC) (r3 : Int) (e3 : Int) ⟨res3, k7⟩
  refine NewSto.own rfl fun c3 H8 hc3 hs8 w3 k8 => ?_
  have k68 := k7.trans k8
  have k28 := k26.trans k68
  refine Ld.o2 ((o1.kp k2).kp k28) sa ra rfl (RunT.imp ?_ (Negated_c (ha.kp (kk2.trans k28))))
  rintro H9 (n4 : AC) (r4 : Int) (e4 : Int) ⟨res4, k9⟩
  refine NewSto.own rfl fun c4 H10 hc4 hs10 w4 k10 => ?_
  have k810 := k9.trans k10
  have k4_10 := k46.trans (k68.trans k810)
  have k6_10 := k68.trans k810
  obtain ⟨he12, hr12, l, hl, t1, t2⟩ := (res1.kp (k4.trans k4_10)).same (res2.kp (k6.trans k6_10)) fun _ ρ => rfl
  obtain ⟨he34, hr34, l', hl', t3, t4⟩ := (res3.kp (k8.trans k810)).same (res4.kp k10) fun _ ρ => rfl
  refine CondB.pos (by rw [he12]; simp) (CondB.pos (by rw [he34]; simp) ?_)
  refine Ld.o2 (w1.kp k4_10) n1 r1 rfl (Ld.o2 (w2.kp k6_10) n2 r2 rfl (RunT.imp ?_ (SameDiagram_c t1 t2 (by omega))))
  rintro H11 q ⟨rfl, k11⟩
  refine CondB.pos (by simp [hr12]) (Ld.o2 ((w3.kp k810).kp k11) n3 r3 rfl (Ld.o2 (w4.kp k11) n4 r4 rfl (RunT.imp ?_ (SameDiagram_c (t3.kp k11) (t4.kp k11) (by omega)))))
  rintro H12 q ⟨rfl, k12⟩
  refine CondB.pos (by simp [hr34]) (RunT.imp ?_ built_c)
  rintro H13 q ⟨rfl, k13⟩
  exact ⟨rfl, (((kk2.trans (k28.trans k810)).trans k11).trans k12).trans k13⟩
end Go.Proofs.Ytanaaabejeeakaa
end
