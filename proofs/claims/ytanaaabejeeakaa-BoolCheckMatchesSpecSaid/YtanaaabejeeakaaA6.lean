/- Joined by a program: what the proof of the law leans on, part 6. -/
import Derived.Test.YtanaaabejeeakaaA5
import Derived.Test.YtanaaabejeeakaaRows
import Derived.WalkKit
import Derived.ProofKit
import Derived.OpenShut
import Derived.JoinedCond
import Derived.Below
import Derived.ChangeSame
import Derived.Lib.SlicesCompact
set_option linter.unusedVariables false
set_option linter.unusedSimpArgs false
section
/- How many assignments a tree is true for. -/
namespace Go.AI
open DT

def cnt (n : Nat) : Nat → DT → Nat
  | _, leaf false => 0
  | v, leaf true => 2 ^ (n - v)
  | v, nd w l h => (cnt n (w + 1) l + cnt n (w + 1) h) * 2 ^ (w - v)
def VarsLt (n : Nat) : DT → Prop
  | leaf _ => True
  | nd w l h => w < n ∧ VarsLt n l ∧ VarsLt n h
theorem cnt_le (n : Nat) : ∀ (x : DT) (v : Nat), x.RO → VarsLt n x → v ≤ n → v ≤ x.top → cnt n v x ≤ 2 ^ (n - v)
  | leaf false, v, _, _, _, _ => Nat.zero_le _
  | leaf true, v, _, _, _, _ => Nat.le_refl _
  | nd w l h, v, hr, hv, h1, h2 => by
    obtain ⟨_, _, t1, t2, r1, r2⟩ := hr
    obtain ⟨u0, u1, u2⟩ := hv
    simp only [top] at h2
    have e1 := cnt_le n l (w + 1) r1 u1 (by omega) (by omega)
    have e2 := cnt_le n h (w + 1) r2 u2 (by omega) (by omega)
    simp only [cnt]
    have e3 : 2 ^ (n - v) = 2 ^ (n - (w + 1)) * 2 * 2 ^ (w - v) := by
      rw [← Nat.pow_succ, ← Nat.pow_add]
      congr 1
      omega
    rw [e3]
    exact Nat.mul_le_mul_right _ (by omega)
theorem cnt_top (n v w : Nat) (l h : DT) : cnt n v (nd w l h) = cnt n w (nd w l h) * 2 ^ (w - v) := by
  simp only [cnt, Nat.sub_self, Nat.pow_zero, Nat.mul_one]
theorem varsLt_mem {n : Nat} : ∀ (x : DT) (st : List DT), VarsLt n x → ∀ y ∈ ser x st, y ∈ st ∨ VarsLt n y
  | leaf _, st, _, y, hy => .inl hy
  | nd v l h, st, hv, y, hy => by
    simp only [ser] at hy
    split at hy
    · exact .inl hy
    · rcases List.mem_append.1 hy with hy | hy
      · rcases varsLt_mem h _ hv.2.2 y hy with hy | hy
        · exact varsLt_mem l _ hv.2.1 y hy
        · exact .inr hy
      · simp at hy; subst hy; exact .inr hv
end Go.AI
end
section
/- The fault of a number of variables; Count. -/
namespace Go.Proofs.Ytanaaabejeeakaa
open Go.AI Go.AI.DT

theorem lt86 : 86 < Try.prog.funcs.size := (Array.getElem?_eq_some_iff.1 Try.func86).1
theorem lt58 : 58 < Try.prog.funcs.size := (Array.getElem?_eq_some_iff.1 Try.func58).1

theorem IndexFunc_c {s fn : AC} {l : List NRow} {H : AHeap} {f : NRow → Bool} (hs : SlR H s 3 (nodeRows l)) (hlen : l.length < 4611686018427387904)
    (hf : ∀ (p : NRow) (H2 : AHeap), Kp H H2 → CVT Try.prog [(false, [.bool])] fn [(.agg [(.int .i64 p.1), (.int .i64 p.2.1), (.int .i64 p.2.2)])] H2 fun H3 b => Kp H2 H3 ∧ b = f p) :
    Fn.slices_IndexFunc_fetterlock_api_Node_fetterlock_api_Node s fn H fun H' q => Kp H H' ∧ (0 ≤ q ↔ ∃ p ∈ l, f p = true) := by
  refine slices_IndexFunc_fetterlock_api_Node_fetterlock_api_Node.run ?_
  unfold slices_IndexFunc_fetterlock_api_Node_fetterlock_api_Node.W slices_IndexFunc_fetterlock_api_Node_fetterlock_api_Node.l6
  refine LenS.of hs ?_
  rw [nodeRows_len]
  refine LoopT.rule (fun m s0 H3 => ∃ i : Nat, i ≤ l.length ∧ m = l.length - i ∧ s0 = (s, fn, (l.length : Int), (i : Int), ()) ∧ Kp H H3 ∧ ∀ j p, j < i → l[j]? = some p → f p = false) l.length ⟨0, by omega, by omega, rfl, Kp.refl _, fun j p h => by omega⟩ ?_
  rintro m s0 H3 back ⟨i, hi, rfl, rfl, k3, hall⟩ hback
  simp only [slices_IndexFunc_fetterlock_api_Node_fetterlock_api_Node.b6]
  refine CondB.dec (fun hlt => ?_) fun hge => ?_
  · have hi' : i < l.length := by omega
    obtain ⟨p, hp⟩ : ∃ b, l[i]? = some b := ⟨_, List.getElem?_eq_getElem hi'⟩
    refine IA.of (hs.kp k3) (by omega) (by rw [Int.toNat_natCast]; exact nodeRow_at hp) fun b1 o1 hld => Ld.a3 hld p.1 p.2.1 p.2.2 rfl rfl ?_
    refine CVT.imp ?_ (hf p H3 k3)
    rintro H4 b ⟨k4, rfl⟩
    refine CondB.mk (fun hc => ⟨k3.trans k4, ?_⟩) fun hc => ?_
    · exact ⟨fun _ => ⟨p, List.mem_of_getElem? hp, hc⟩, fun _ => by show (0 : Int) ≤ (i : Int); omega⟩
    · refine hback (l.length - (i + 1)) _ _ (by omega) ⟨i + 1, by omega, rfl, ?_, k3.trans k4, fun j q hj hq => ?_⟩
      · exact tc rfl (tc rfl (tc rfl (tc ((wrap64 (by omega) (by omega)).trans (by omega)) rfl)))
      · by_cases hji : j = i
        · subst hji
          rw [hp] at hq
          cases hq
          exact hc
        · exact hall j q (by omega) hq
  · refine ⟨k3, fun h => by exfalso; have h' : (0 : Int) ≤ -1 := h; omega, fun ⟨p, hp, he⟩ => ?_⟩
    obtain ⟨j, hj, e⟩ := List.getElem_of_mem hp
    have := hall j p (by omega) (by rw [List.getElem?_eq_getElem hj, e])
    rw [this] at he; cases he

open Classical in
/-- The fault of a diagram with a number of variables. -/
noncomputable def vFault (l : List NRow) (r n : Int) : Int := if dFault l r ≠ 0 then dFault l r else if n < 0 ∨ 16 < n ∨ ∃ p ∈ l, n ≤ p.1 then 1 else 0

theorem dFault_len {l : List NRow} {r : Int} (h : dFault l r = 0) : l.length ≤ 2000 ∧ CanonD l r := by
  unfold dFault at h
  split at h
  · cases h
  split at h
  · next h1 => exact absurd h h1
  split at h
  · next h1 => exact ⟨by omega, h1⟩
  · cases h

theorem varsFault_c {s : AC} {l : List NRow} {r n : Int} {H : AHeap} (hs : SlR H s 3 (nodeRows l)) :
    Fn.solve_varsFault s r n H fun H' q => q = vFault l r n ∧ Kp H H' := by
  refine solve_varsFault.run ?_
  unfold solve_varsFault.W
  refine New.own fun b1 H1 hb1 hs1 o1 k1 => New.own fun b3 H3 hb3 hs3 o3 k3 => Ld.o2 (o1.kp k3) s r rfl ?_
  have kk := k1.trans k3
  refine RunT.imp ?_ (CheckDiagram_c (hs.kp kk))
  rintro H4 q ⟨rfl, k4⟩
  have kk4 := kk.trans k4
  have o34 := o3.kp k4
  refine CondB.mk (fun hne => ⟨?_, kk4⟩) fun he => ?_
  · unfold vFault; rw [if_pos (by simpa using hne)]
  have h0 : dFault l r = 0 := by simpa using he
  have hv : vFault l r n = if n < 0 ∨ 16 < n ∨ ∃ p ∈ l, n ≤ p.1 then 1 else 0 := by unfold vFault; rw [if_neg (by omega)]
  rw [hv]
  unfold solve_varsFault.p15
  refine Ld.oi o34 rfl (CondB.dec (fun h1 => CondB.pos rfl ⟨?_, kk4⟩) fun h1 => Ld.oi o34 rfl (CondB.dec (fun h2 => CondB.pos rfl ⟨?_, kk4⟩) fun h2 => ?_))
  · rw [if_pos (.inl h1)]
  · rw [if_pos (.inr (.inl (by omega)))]
  refine FA.mk (Ld.oc ((o1.kp k3).kp k4) rfl (Fnc.mk rfl rfl ?_))
  refine slices_ContainsFunc_fetterlock_api_Node_fetterlock_api_Node.run ?_
  unfold slices_ContainsFunc_fetterlock_api_Node_fetterlock_api_Node.W
  refine RunT.imp ?_ (IndexFunc_c (f := fun p => decide (p.1 ≥ n)) (hs.kp kk4) (by have := (dFault_len h0).1; omega) fun p H2 k2 => CVT.mk lt86 ?_)
  · rintro H5 (q : Int) ⟨k5, hq⟩
    refine CondB.mk (fun h3 => ⟨?_, kk4.trans k5⟩) fun h3 => ⟨?_, kk4.trans k5⟩
    · obtain ⟨p, hp, he⟩ := hq.1 (@of_decide_eq_true _ _ h3)
      rw [if_pos (.inr (.inr ⟨p, hp, by simpa using he⟩))]
    · rw [if_neg]
      rintro (h | h | ⟨p, hp, he⟩)
      · exact h1 h
      · omega
      · exact @of_decide_eq_false _ _ h3 (hq.2 ⟨p, hp, by simpa using he⟩)
  · refine solve_varsFault_1.run ?_
    unfold solve_varsFault_1.W
    refine New.own fun nb H6 hnb hs6 on k6 => FA.mk (Ld.oi on rfl (Ld.oi ((o34.kp k2).kp k6) rfl ⟨k6, rfl⟩))

theorem pow2_lt {k : Nat} (h : k ≤ 16) : 2 ^ k ≤ 65536 := Nat.pow_le_pow_right (n := 2) (by omega) h

theorem Count1_c {st : List DT} {t : DT} {v n i b1 b3 pb cb : Nat} {s : AC} {r : Int} {cs : List AC} {H : AHeap} (ht : In st t) (hro : t.RO) (hvl : VarsLt n t) (hn : n ≤ 16) (hv : v ≤ n) (hvt : v ≤ t.top)
    (o3 : Own H b3 [.int .i64 (n : Int)]) (op : Own H pb [.sl (some (cb, 0)) 1 st.length (some st.length)]) (oc : Own H cb cs) (hcl : cs.length = st.length) (o1 : Own H b1 [s, .int .i64 r]) (hs : SlR H s 3 (nodeRows (st.map (row st))))
    (hmade : ∀ j t', j < i → st[j]? = some t' → cs[j]? = some (.int .i64 (cnt n t'.top t' : Int))) (hti : ref st t < i) :
    Fn.solve_Count_1 (ref st t) (v : Int) (.ptr (some (b3, 0))) (.ptr (some (pb, 0))) (.ptr (some (b1, 0))) H fun H' q => H' = H ∧ q = (cnt n v t : Int) := by
  refine solve_Count_1.run ?_
  unfold solve_Count_1.W
  have hle := cnt_le n t v hro hvl hv hvt
  have hp16 : 2 ^ (n - v) ≤ 65536 := pow2_lt (by omega)
  cases t with
  | leaf b =>
    cases b with
    | false => exact CondB.pos rfl ⟨rfl, rfl⟩
    | true =>
      refine CondB.neg rfl (CondB.pos rfl (Ld.oi o3 rfl ?_))
      have e : IntKind.wrap .i64 ((n : Int) - (v : Int)) = ((n - v : Nat) : Int) := (wrap64 (by omega) (by omega)).trans (by omega)
      rw [e]
      refine ⟨by omega, rfl, ?_⟩
      have := shl_nat (x := 1) (v := n - v) (by omega) (by rw [Nat.shiftLeft_eq, Nat.one_mul]; omega)
      rw [Nat.shiftLeft_eq, Nat.one_mul] at this
      exact this
  | nd w l h =>
    have h0 : 0 ≤ ref st (nd w l h) := by rw [ref_ge]; omega
    refine CondB.neg ?_ (CondB.neg ?_ (Ld.oc op rfl ?_))
    · simp only [beq_eq_false_iff_ne, ne_eq]; omega
    · simp only [beq_eq_false_iff_ne, ne_eq]; omega
    have hg := ref_get ht h0
    have hlt := (List.getElem?_eq_some_iff.1 hg).1
    have hc := hmade _ _ (by omega) hg
    refine IA.mk h0 (by omega) (Ld.oi oc (by rw [Nat.zero_add, Nat.mul_one]; exact hc) ?_)
    refine FA.mk (Ld.oc o1 rfl (IA.of hs h0 (nodeRow_at (by rw [List.getElem?_map, hg]; rfl)) fun b o hld => FA.mk (Ld.ei hld rfl ?_)))
    simp only [top] at hvt
    have hw := hvl.1
    have e : IntKind.wrap .i64 ((w : Int) - (v : Int)) = ((w - v : Nat) : Int) := (wrap64 (by omega) (by omega)).trans (by omega)
    refine GE0.mk ?_ ⟨by trivial, ?_⟩
    · show 0 ≤ IntKind.wrap .i64 ((w : Int) - (v : Int))
      rw [e]; omega
    · show shl .i64 (cnt n w (nd w l h) : Int) (IntKind.wrap .i64 ((w : Int) - (v : Int))) = _
      rw [cnt_top] at hle
      have := shl_nat (x := cnt n w (nd w l h)) (v := w - v) (by omega) (by rw [Nat.shiftLeft_eq]; omega)
      rw [Nat.shiftLeft_eq] at this
      rw [e, cnt_top n v]
      exact this

theorem Count_c {s : AC} {x : DT} {n : Nat} {H : AHeap} (hx : x.RO) (hs : SlR H s 3 (nodeRows ((ser x []).map (row (ser x []))))) (hlen : (ser x []).length ≤ 2000) (hn : n ≤ 16) (hvl : VarsLt n x) :
    Fn.solve_Count s (ref (ser x []) x) (n : Int) H fun H' q e => q = (cnt n 0 x : Int) ∧ e = 0 ∧ Kp H H' := by
  refine solve_Count.run ?_
  unfold solve_Count.W
  obtain ⟨st, hst⟩ : ∃ st, st = ser x [] := ⟨_, rfl⟩
  have hseq : Seq st := by rw [hst]; exact ser_seq x [] hx Seq.nil
  have hinx : In st x := by rw [hst]; exact ser_in x []
  have hvars : ∀ y ∈ st, VarsLt n y := by
    intro y hy
    rw [hst] at hy
    rcases varsLt_mem x [] hvl y hy with h | h
    · cases h
    · exact h
  have hcan : vFault (st.map (row st)) (ref st x) n = 0 := by
    have : dFault (st.map (row st)) (ref st x) = 0 := dFault_zero (by rw [List.length_map, hst]; exact hlen) ⟨x, hx, by rw [hst], by rw [hst]⟩
    unfold vFault
    rw [if_neg (by omega), if_neg]
    rintro (h | h | ⟨p, hp, h⟩)
    · omega
    · omega
    · obtain ⟨y, hy, rfl⟩ := List.mem_map.1 hp
      obtain ⟨v, a, b, rfl, _⟩ := hseq.1.parts y hy
      have := (hvars _ hy).1
      simp only [row] at h
      omega
  rw [← hst] at hs hlen ⊢
  refine New.own fun b1 H1 hb1 hs1 o1 k1 => New.own fun b3 H3 hb3 hs3 o3 k3 => Ld.o2 (o1.kp k3) s (ref st x) rfl (Ld.oi o3 rfl ?_)
  have kk := k1.trans k3
  refine RunT.imp ?_ (varsFault_c (hs.kp kk))
  rintro H4 q ⟨rfl, k4⟩
  have kk4 := kk.trans k4
  rw [hcan]
  refine CondB.neg rfl (FA.mk (Ld.oc ((o1.kp k3).kp k4) rfl (LenS.of (hs.kp kk4) ?_)))
  rw [nodeRows_len, List.length_map]
  refine MkS.own (n := st.length) (by omega) (by omega) fun cb H5 hcb hs5 oc k5 => NewSto.own rfl fun pb H6 hpb hs6 op k6 => Fnc.mk rfl rfl ?_
  have kk6 := (kk4.trans k5).trans k6
  have o16 := (((o1.kp k3).kp k4).kp k5).kp k6
  have o36 := ((o3.kp k4).kp k5).kp k6
  refine FA.mk (Ld.oc o16 rfl (LenS.of (hs.kp kk6) ?_))
  rw [nodeRows_len, List.length_map]
  have hz4 := kk4.size
  have hb14 := ((o1.kp k3).kp k4).lt
  have hb34 := (o3.kp k4).lt
  unfold solve_Count.l20
  refine LoopT.rule (fun mm s0 H7 => ∃ (i : Nat) (cs : List AC), i ≤ st.length ∧ mm = st.length - i ∧ s0 = (.ptr (some (b1, 0)), .ptr (some (pb, 0)), .fn 58 [] [(b3, 0), (pb, 0), (b1, 0)], s, (st.length : Int), (i : Int), ()) ∧
    Kp H H7 ∧ Own H7 b1 [s, .int .i64 (ref st x)] ∧ Own H7 b3 [.int .i64 (n : Int)] ∧ Own H7 pb [.sl (some (cb, 0)) 1 st.length (some st.length)] ∧ Own H7 cb cs ∧ cs.length = st.length ∧
    ∀ j t', j < i → st[j]? = some t' → cs[j]? = some (.int .i64 (cnt n t'.top t' : Int))) st.length
    ⟨0, _, by omega, by omega, rfl, kk6, o16, o36, op, oc.kp k6, by rw [List.length_replicate], fun j t h => by omega⟩ ?_
  rintro mm s0 H7 back ⟨i, cs, hi, rfl, rfl, k7, o17, o37, op7, oc7, hcl, hmade⟩ hback
  simp only [solve_Count.b20]
  refine CondB.dec (fun hlt => ?_) fun hge => ?_
  · have hi' : i < st.length := by omega
    obtain ⟨t, ht⟩ : ∃ b, st[i]? = some b := ⟨_, List.getElem?_eq_getElem hi'⟩
    have htm := List.mem_of_getElem? ht
    obtain ⟨v, l, h, rfl, h1, h2, h3⟩ := hseq.1.parts t htm
    obtain ⟨i1, i2⟩ := hseq.2 i v l h ht
    obtain ⟨_, r1⟩ := in_take i i1
    obtain ⟨_, r2⟩ := in_take i i2
    have hvv := hvars _ htm
    refine IA.of (hs.kp k7) (by omega) (by rw [Int.toNat_natCast]; exact nodeRow_at (p := row st (nd v l h)) (by rw [List.getElem?_map, ht]; rfl)) fun b o hld => Ld.a3 hld (v : Int) (ref st l) (ref st h) rfl rfl ?_
    refine NewSto.own rfl fun nb H8 hnb hs8 on k8 => Ld.oc (op7.kp k8) rfl (FA.mk (Ld.oi on rfl (FA.mk (Ld.oi on rfl ?_))))
    have hv16 := hvv.1
    have ev : IntKind.wrap .i64 ((v : Int) + 1) = ((v + 1 : Nat) : Int) := (wrap64 (by omega) (by omega)).trans (by omega)
    rw [ev]
    have k78 := k7.trans k8
    have tl := h3.2.2.1
    have th := h3.2.2.2.1
    refine CVT.imp ?_ (CVT.mk lt58 (Count1_c h1 h3.2.2.2.2.1 hvv.2.1 hn (by omega) (by omega) (o37.kp k8) (op7.kp k8) (oc7.kp k8) hcl (o17.kp k8) (hs.kp k78) hmade r1))
    rintro H9 q ⟨he, rfl⟩
    obtain rfl : H8 = H9 := he.symm
    refine FA.mk (Ld.oi on rfl (FA.mk (Ld.oi on rfl ?_)))
    rw [ev]
    refine CVT.imp ?_ (CVT.mk lt58 (Count1_c h2 h3.2.2.2.2.2 hvv.2.2 hn (by omega) (by omega) (o37.kp k8) (op7.kp k8) (oc7.kp k8) hcl (o17.kp k8) (hs.kp k78) hmade r2))
    rintro H9 q ⟨he, rfl⟩
    obtain rfl : H8 = H9 := he.symm
    refine IA.mk (by omega) (by omega) ?_
    refine Sto.cell (oc7.kp k8) (by rw [hcl]; omega) fun H10 oc10 k10 hs10 => ?_
    refine ⟨Same1.mk rfl, Same1.mk rfl, Same2.mk rfl, Same2.mk rfl, ?_⟩
    refine hback (st.length - (i + 1)) _ _ (by omega) ⟨i + 1, _, by omega, rfl, ?_, k78.fresh k10 fun y e => ?_, (o17.kp k8).keep k10 (by omega), (o37.kp k8).keep k10 (by omega), (op7.kp k8).keep k10 (by omega), oc10, by rw [List.length_set, hcl], fun j t' hj ht' => ?_⟩
    · exact tc rfl (tc rfl (tc rfl (tc rfl (tc rfl (tc ((wrap64 (by omega) (by omega)).trans (by omega)) rfl)))))
    · have e' : y = cb := e; omega
    · simp only [Int.toNat_natCast, Nat.mul_one, Nat.zero_add]
      by_cases hji : j = i
      · subst hji
        rw [ht] at ht'
        cases ht'
        rw [List.getElem?_set_self (by omega)]
        have c1 := cnt_le n l (v + 1) h3.2.2.2.2.1 hvv.2.1 (by omega) (by omega)
        have c2 := cnt_le n h (v + 1) h3.2.2.2.2.2 hvv.2.2 (by omega) (by omega)
        have c3 : 2 ^ (n - (v + 1)) ≤ 65536 := pow2_lt (by omega)
        have e : IntKind.wrap .i64 ((cnt n (v + 1) l : Int) + (cnt n (v + 1) h : Int)) = (cnt n v (nd v l h) : Int) := by
          refine (wrap64 (by omega) (by omega)).trans ?_
          simp only [cnt, Nat.sub_self, Nat.pow_zero, Nat.mul_one]
          omega
        rw [e]
        rfl
      · rw [List.getElem?_set_ne (by omega)]
        exact hmade j t' (by omega) ht'
  · have hil : i = st.length := by omega
    have hmade' := hmade
    refine FA.mk (Ld.oi o17 rfl ?_)
    refine CVT.imp ?_ (CVT.mk lt58 (Count1_c (v := 0) hinx hx hvl hn (by omega) (by omega) o37 op7 oc7 hcl o17 (hs.kp k7) hmade (by have := (ref_lt hinx).2; omega)))
    rintro H9 q ⟨he, rfl⟩
    obtain rfl : H7 = H9 := he.symm
    exact ⟨by trivial, by trivial, k7⟩
end Go.Proofs.Ytanaaabejeeakaa
end
section
/- The diagram of a small formula; the law of Build. -/
namespace Go.Proofs.Ytanaaabejeeakaa
open Go.AI Go.AI.DT

/-- The written form of a tree's nodes. -/
abbrev rowsOf (x : DT) : List NRow := (ser x []).map (row (ser x []))

def smallF : Fm := .mk 4 0 [.mk 1 0 [], .mk 1 2 []]
def smallT : DT := nd 0 (leaf false) (nd 2 (leaf false) (leaf true))
theorem smallT_ro : smallT.RO := ⟨by omega, by simp, by simp [top], by simp [top], trivial, by omega, by simp, by simp [top], by simp [top], trivial, trivial⟩
theorem small_eval (ρ : Nat → Bool) : smallT.eval ρ = smallF.val ρ := by
  simp only [smallT, smallF, eval, Fm.val, Fm.vals]
  cases h0 : ρ 0 <;> cases h2 : ρ 2 <;> simp [h0, h2]
theorem small_fault : boolFaultOf smallF = 0 := by
  simp [boolFaultOf, smallF, Fm.size, Fm.sizes, Fm.fault, Fm.faults, Fm.want, Fm.most]
theorem small_rows : rowsOf smallT = [(2, -1, -2), (0, -1, 0)] ∧ ref (ser smallT []) smallT = 1 ∧ cnt 3 0 smallT = 2 := by
  refine ⟨?_, ?_, ?_⟩ <;> decide

theorem BRes.tree {H0 H : AHeap} {f : Fm} {ns : AC} {root err : Int} {t : DT} (h : BRes H0 H f ns root err) (h0 : boolFaultOf f = 0) (hr : t.RO) (he : ∀ ρ, t.eval ρ = f.val ρ) : DRes H t ns root err := by
  rcases h with ⟨h1, _⟩ | ⟨_, x, hx, hev, hd⟩
  · exact absurd h0 h1
  · have : x = t := canon' hx hr fun ρ => (hev ρ).trans (he ρ).symm
    subst this
    exact hd.res

theorem built_c {H : AHeap} : Fn.fetterlocklaw6_built H fun H' q => q = true ∧ Kp H H' := by
  refine fetterlocklaw6_built.run ?_
  unfold fetterlocklaw6_built.W
  refine NewSto.own rfl fun b1 H1 hb1 hs1 o1 k1 => NewSto.own rfl fun b2 H2 hb2 hs2 o2 k2 => ?_
  refine Ld.o3 (o1.kp k2) (1 : Int) (0 : Int) (.sl none 0 0 (some 0)) rfl (Ld.o3 o2 (1 : Int) (2 : Int) (.sl none 0 0 (some 0)) rfl ?_)
  refine NewS.own fun b3 H3 hb3 hs3 o3 k3 => ?_
  have kk := (k1.trans k2).trans k3
  have hf : FmB H3.size H3 4 0 (.sl (some (b3, 0)) 3 2 (some 2)) smallF := by
    have leafF : ∀ v : Int, FmB H3.size H3 1 v (.sl none 0 0 (some 0)) (.mk 1 v []) := fun v =>
      .mk [] rfl (SlR.nil _ _) (fun b o z m cap e => by cases e) fun i r k h => by simp at h
    refine .mk [(1, 0, .sl none 0 0 (some 0)), (1, 2, .sl none 0 0 (some 0))] rfl ?_ (fun b o z m cap e => ?_) ?_
    · refine ⟨some (b3, 0), 3, some 2, rfl, fun i r hr => ⟨rfl, b3, 0, rfl, ?_⟩⟩
      match i with
      | 0 => simp at hr; subst hr; exact o3.load (o := 0) (n := 3) (by simp)
      | 1 => simp at hr; subst hr; exact o3.load (o := 3) (n := 3) (by simp)
      | i + 2 => simp at hr
    · cases e; have := o3.lt; omega
    · intro i r k hr hk
      match i with
      | 0 => simp at hr hk; subst hr hk; exact leafF 0
      | 1 => simp at hr hk; subst hr hk; exact leafF 2
      | i + 2 => simp at hr
  refine RunT.imp ?_ (Build_c (f := smallF) (by simp [smallF, Fm.size, Fm.sizes]) hf)
  rintro H4 ns root err ⟨hres, k4⟩
  have hd := hres.tree small_fault smallT_ro small_eval
  obtain ⟨r1, r2, r3⟩ := small_rows
  have hl : (ser smallT []).length = 2 := by decide
  rcases hd with ⟨hbig, _⟩ | ⟨_, rfl, rfl, hsl⟩
  · omega
  have hsl' : SlR H4 ns 3 (nodeRows [(2, -1, -2), (0, -1, 0)]) := by rw [← r1]; exact hsl
  refine NewSto.own rfl fun b5 H5 hb5 hs5 o5 k5 => CondB.neg rfl (FA.mk (Ld.oi o5 rfl ?_))
  have kk5 := (kk.trans k4).trans k5
  refine CondB.neg (by rw [r2]; rfl) (FA.mk (Ld.oc o5 rfl (LenS.of (hsl'.kp k5) ?_)))
  unfold fetterlocklaw6_built.p11
  refine CondB.neg rfl (Ld.o2 o5 ns (ref (ser smallT []) smallT) rfl ?_)
  refine RunT.imp ?_ (Count_c (n := 3) smallT_ro (hsl.kp k5) (by omega) (by omega) ⟨by omega, trivial, by omega, trivial, trivial⟩)
  rintro H6 q e ⟨rfl, rfl, k6⟩
  rw [r3]
  have hsl6 := (hsl'.kp k5).kp k6
  refine FA.mk (Ld.oc (o5.kp k6) rfl (IA.of hsl6 (by omega) (r := nodeCells (2, -1, -2)) rfl fun b o hld => Ld.a3 hld (2 : Int) (-1 : Int) (-2 : Int) rfl rfl (CondB.pos rfl ?_)))
  refine FA.mk (Ld.oc (o5.kp k6) rfl (IA.of hsl6 (by omega) (r := nodeCells (0, -1, 0)) rfl fun b o hld => Ld.a3 hld (0 : Int) (-1 : Int) (0 : Int) rfl rfl (CondB.pos rfl (CondB.pos rfl ⟨rfl, kk5.trans k6⟩))))

theorem _root_.Go.AI.FmB.wide {n n' : Nat} {H : AHeap} (hn : n ≤ n') {op var : Int} {s : AC} {f : Fm} (h : FmB n H op var s f) : FmB n' H op var s f := by
  induction h with
  | mk rows hl hs hb _ ih => exact .mk rows hl hs (fun b o z m cap e => Nat.lt_of_lt_of_le (hb b o z m cap e) hn) ih

theorem DRes.same {H : AHeap} {x : DT} {ns ns' : AC} {r r' e e' : Int} (h : DRes H x ns r e) (h' : DRes H x ns' r' e') : e = e' ∧ r = r' ∧ ∃ l : List NRow, l.length ≤ 2000 ∧ SlR H ns 3 (nodeRows l) ∧ SlR H ns' 3 (nodeRows l) := by
  rcases h with ⟨a, rfl, rfl, d⟩ | ⟨a, rfl, rfl, d⟩ <;> rcases h' with ⟨a', rfl, rfl, d'⟩ | ⟨a', rfl, rfl, d'⟩
  · exact ⟨rfl, rfl, [], by simp, d, d'⟩
  · omega
  · omega
  · exact ⟨rfl, rfl, _, by rw [List.length_map]; exact a, d, d'⟩

end Go.Proofs.Ytanaaabejeeakaa
end
section
/- From what came in to formulas and diagrams asx they lie in memory. -/
namespace Go.Proofs.Ytanaaabejeeakaa
open Go.AI

theorem good_int {D : Type} {P : Program} {H : AHeap} {n : Nat} {t : TypeId} {k : IntKind} {cs : List AC} {d : DataW D} (hu : P.underlying t = some (.int k)) (h : AI.Good P H n t cs d) : ∃ i, cs = [.int k i] ∧ d = .lit (.int k i) ∧ (Lit.int k i).wf = true := by
  cases n with
  | zero => exact h.elim
  | succ n => simp only [AI.Good, goodStep, hu] at h; exact h
theorem good_struct {D : Type} {P : Program} {H : AHeap} {n : Nat} {t : TypeId} {fs : Array Field} {cs : List AC} {d : DataW D} (hu : P.underlying t = some (.struct fs)) (h : AI.Good P H n t cs d) : ∃ m ds, n = m + 1 ∧ d = .agg ds ∧ goodF P (AI.Good P H m) fs.toList cs ds := by
  cases n with
  | zero => exact h.elim
  | succ n => simp only [AI.Good, goodStep, hu] at h; obtain ⟨ds, h1, h2⟩ := h; exact ⟨n, ds, rfl, h1, h2⟩
theorem good_slice {D : Type} {P : Program} {H : AHeap} {n : Nat} {t e : TypeId} {cs : List AC} {d : DataW D} (hu : P.underlying t = some (.slice e)) (h : AI.Good P H n t cs d) :
    (cs = [.sl none 0 0 (some 0)] ∧ d = .nil) ∨ ∃ m b ds rest cells, n = m + 1 ∧ cs = [.sl (some (b, 0)) (P.cellsOf e) ds.length none] ∧ d = .slice ds rest ∧ H.get b = some (.row e b 0 true (cells.map some)) ∧
        goodL (AI.Good P H m) e (P.cellsOf e) cells ds ∧ ds.length ≤ maxLen := by
  cases n with
  | zero => exact h.elim
  | succ n =>
    simp only [AI.Good, goodStep, hu] at h
    rcases h with h | ⟨b, ds, rest, cells, h1, h2, h3, h4, h5, _⟩
    · exact .inl h
    · exact .inr ⟨n, b, ds, rest, cells, rfl, h1, h2, h3, h4, h5⟩
theorem goodF_cons {D : Type} {P : Program} {good : TypeId → List AC → DataW D → Prop} {f : Field} {fs : List Field} {cs : List AC} {ds : List (DataW D)} (h : goodF P good (f :: fs) cs ds) :
    ∃ d ds' a b, ds = d :: ds' ∧ cs = a ++ b ∧ good f.type a d ∧ goodF P good fs b ds' := by
  cases ds with
  | nil => exact h.elim
  | cons d ds' => exact ⟨d, ds', cs.take (P.cellsOf f.type), cs.drop (P.cellsOf f.type), rfl, (List.take_append_drop ..).symm, h.1, h.2⟩
theorem goodF_nil {D : Type} {P : Program} {good : TypeId → List AC → DataW D → Prop} {cs : List AC} {ds : List (DataW D)} (h : goodF P good [] cs ds) : ds = [] ∧ cs = [] := by
  cases ds with
  | nil => exact ⟨rfl, h⟩
  | cons d ds' => exact h.elim

theorem cells77 : Try.prog.cellsOf 77 = 3 := by decide +kernel

end Go.Proofs.Ytanaaabejeeakaa
end
section
/- The rows' last steps, shared. -/
namespace Go.Proofs.Ytanaaabejeeakaa
open Go.ChangeShapes Go.WideShapes Go.ChangeAt Go.RowKit
set_option linter.unusedVariables false

section
variable {H : Type} {enc : TypeId × Value → H} {P : Program}
theorem post_of_below {f : Func} {s : ChangeSpec} {apart fresh handsOn again : Bool} {W W' : World} {args : Array Value} {v : Value} {ds gs : List (DataW H)} {before pa pv : List MemPlace}
    (hW : DataW.Whole enc P f.params.toList s.vars apart W args.toList ds gs before)
    (hres : ∀ (b : Nat) (sp : Nat → Bool) (hd : Bool), DataW.TrodAll enc P W' b sp hd f.resultTypes.toList (v.resultList f.resultTypes.size) (s.fn H (ds ++ gs)).results [])
    (hargs : ∀ sp : Nat → Bool, (∀ p ∈ before, sp p.block = true) → DataW.TrodAll enc P W' 0 sp true f.params.toList args.toList (s.fn H (ds ++ gs)).args pa)
    (hvars : ∀ sp : Nat → Bool, (∀ p ∈ before, sp p.block = true) → DataW.TrodVars enc P W' sp s.vars (s.fn H (ds ++ gs)).vars pv)
    (hps : before = pa ++ pv) (hb : Below W.heap.size W W')
    (hok : ∀ (j : Nat) (t : TypeId) (r : Value), f.resultTypes[j]? = some t → (v.resultList f.resultTypes.size)[j]? = some r → Value.okWide P W' .any 0 t r) :
    s.post enc P f apart fresh handsOn again W args v W' := by
  have hlt : ∀ p ∈ before, p.block < W.heap.size := fun p hp => hW.lt p hp
  have hold : ∀ p ∈ before, (fun b => decide (b < W.heap.size)) p.block = true := fun p hp => by simpa using hlt p hp
  refine ⟨ds, gs, before, [], pa, pv, hW, hres _ _ _, hargs _ hold, hvars _ hold, World.keptBut_mono (fun p hp => ⟨hp, ?_⟩) (hb.frame (· ∈ before)), fun _ => ?_⟩
  · rw [hps, List.mem_append] at hp
    exact Or.inr hp
  · obtain ⟨_, _, _, _, _, hz, hn⟩ := hW
    refine ⟨hok, _, _, ([] ++ pa) ++ pv, ⟨[] ++ pa, pv, trodAll_append (hargs _ (fun _ _ => rfl)) (hres _ _ _), hvars _ (fun _ _ => rfl), rfl, ?_, ?_⟩, ?_⟩
    · intro b off hp
      have hin : MemPlace.cell b off ∈ before := by rw [hps]; simpa using hp
      rw [hb.frozen (hlt _ hin)]
      exact hz b off hin
    · intro ha
      have := hn ha
      rw [hps] at this
      simpa using this
    · intro p hp _
      rw [hps]
      simpa using hp
end

theorem own : ownKnob Try.prog.godebug = none := by kernel_rfl
theorem names_ok : AI.NamesOk Try.prog := by
  have h : Try.prog.funcs.toList.all (fun fn => !(fn.name == "runtime.NumGoroutine")) = true := by decide +kernel
  intro f fn hf
  have hm : fn ∈ Try.prog.funcs.toList := by
    rw [Array.mem_toList_iff]
    exact Array.mem_of_getElem? hf
  have := List.all_eq_true.1 h fn hm
  simpa using this
theorem mixed : Try.prog.follows .mixedOrders = true := by kernel_rfl
theorem laid_out : laidOutB Try.prog = true := by kernel_rfl
def simpleTs : List TypeId := [24, 22, 3, 27, 25, 77]
theorem simple_ok : ∀ t ∈ simpleTs, AI.simpleT Try.prog simpleTs t = true := by
  have h : simpleTs.all (AI.simpleT Try.prog simpleTs) = true := by decide +kernel
  exact List.all_eq_true.1 h
end Go.Proofs.Ytanaaabejeeakaa
namespace Go.Proofs.Ytanaaabejeeakaa
open Go.AI
theorem gargs_cons {D : Type} {P : Program} {H : AHeap} {t : TypeId} {ts : List TypeId} {avs : List AV} {d : DataW D} {ds : List (DataW D)} (h : GoodArgs P H (t :: ts) avs (d :: ds)) :
    ∃ a rest n cs, avs = a :: rest ∧ AI.Good P H n t cs d ∧ a = avOf P t cs ∧ GoodArgs P H ts rest ds := by
  cases avs with
  | nil => exact h.elim
  | cons a rest =>
    obtain ⟨⟨n, cs, h1, h2⟩, h3⟩ := h
    exact ⟨a, rest, n, cs, rfl, h1, h2, h3⟩
theorem gargs_nil {D : Type} {P : Program} {H : AHeap} {avs : List AV} (h : GoodArgs (D := D) P H [] avs []) : avs = [] := by
  cases avs with
  | nil => rfl
  | cons a rest => exact h.elim

/-- Rows of nodes asx they came in. -/
theorem dg_list {D : Type} {H : AHeap} {n : Nat} : ∀ (ds : List (DataW D)) (cells : List AC), goodL (AI.Good Try.prog H n) 77 3 cells ds → ∃ l : List NRow, l.length = ds.length ∧ cells = (nodeRows l).flatten
  | [], cells, h => ⟨[], rfl, h⟩
  | d :: ds, cells, h => by
    obtain ⟨h1, h2⟩ := h
    obtain ⟨m, ds', rfl, rfl, hF⟩ := good_struct Try.underlying77 h1
    obtain ⟨d1, ds1, a1, b1, rfl, e1, g1, hF⟩ := goodF_cons hF
    obtain ⟨d2, ds2, a2, b2, rfl, rfl, g2, hF⟩ := goodF_cons hF
    obtain ⟨d3, ds3, a3, b3, rfl, rfl, g3, hF⟩ := goodF_cons hF
    obtain ⟨rfl, rfl⟩ := goodF_nil hF
    obtain ⟨x, rfl, _⟩ := good_int Try.underlying3 g1
    obtain ⟨y, rfl, _⟩ := good_int Try.underlying3 g2
    obtain ⟨z, rfl, _⟩ := good_int Try.underlying3 g3
    obtain ⟨l, e2, e3⟩ := dg_list ds _ h2
    refine ⟨(x, y, z) :: l, by simp [e2], ?_⟩
    show cells = [.int .i64 x, .int .i64 y, .int .i64 z] ++ (nodeRows l).flatten
    rw [← e3]
    have : cells.take 3 = [.int .i64 x, .int .i64 y, .int .i64 z] := by rw [e1]; rfl
    rw [← this, List.take_append_drop]
theorem good_dg {D : Type} {H : AHeap} (n : Nat) (cs : List AC) (d : DataW D) (h : AI.Good Try.prog H n 27 cs d) : ∃ s r l, cs = [s, .int .i64 r] ∧ SlR H s 3 (nodeRows l) := by
  obtain ⟨m, ds, rfl, rfl, hF⟩ := good_struct Try.underlying27 h
  obtain ⟨d1, ds1, a1, b1, rfl, rfl, g1, hF⟩ := goodF_cons hF
  obtain ⟨d2, ds2, a2, b2, rfl, rfl, g2, hF⟩ := goodF_cons hF
  obtain ⟨rfl, rfl⟩ := goodF_nil hF
  obtain ⟨r, rfl, _⟩ := good_int Try.underlying3 g2
  rcases good_slice Try.underlying25 g1 with ⟨rfl, rfl⟩ | ⟨k, b, ds, rest, cells, rfl, rfl, rfl, hg, hl, _⟩
  · exact ⟨_, r, [], rfl, SlR.nil _ _⟩
  · rw [cells77] at hl ⊢
    obtain ⟨l, e1, rfl⟩ := dg_list ds cells hl
    refine ⟨_, r, l, rfl, some (b, 0), 3, none, by rw [nodeRows_len, e1], fun i r hr => ⟨rfl, b, 0, rfl, ?_⟩⟩
    have hlt := (List.getElem?_eq_some_iff.1 hr).1
    have hall : ∀ r ∈ nodeRows l, r.length = 3 := by
      intro r hr
      obtain ⟨x, _, rfl⟩ := List.mem_map.1 hr
      rfl
    have hfl := flatten_len hall
    have hm : (i + 1) * 3 ≤ (nodeRows l).length * 3 := Nat.mul_le_mul_right _ (by omega)
    rw [Nat.zero_add, load_of hg (by omega), flatten_row hall hr]
end Go.Proofs.Ytanaaabejeeakaa
end
section
/- Apply and Not. -/
namespace Go.Proofs.Ytanaaabejeeakaa
open Go.AI Go.AI.DT

/-- What an operation on diagrams answers: a fault, or the diagram of a function. -/
def ERes (H0 H : AHeap) (bad : Int) (g : (Nat → Bool) → Bool) (ns : AC) (root err : Int) : Prop :=
  (bad ≠ 0 ∧ err = bad ∧ root = 0 ∧ SlR H ns 3 []) ∨ (bad = 0 ∧ ∃ x : DT, x.RO ∧ (∀ ρ, x.eval ρ = g ρ) ∧ DResN H0 H x ns root err)
theorem emp {H H' : AHeap} {s : AC} {sz : Nat} (h : SlR H s sz []) : SlR H' s sz [] := by
  obtain ⟨a, z, cap, e, _⟩ := h.ex
  exact ⟨a, z, cap, e, fun i r hr => by simp at hr⟩
theorem ERes.keep {S : Nat → Prop} {H0 H H' : AHeap} {bad : Int} {g : (Nat → Bool) → Bool} {ns : AC} {root err : Int} (h : ERes H0 H bad g ns root err) (k : Keep S H H') (hS : ∀ y, S y → y < H0.size) : ERes H0 H' bad g ns root err := by
  rcases h with ⟨a, b, c, d⟩ | ⟨a, x, b, c, d⟩
  · exact .inl ⟨a, b, c, emp d⟩
  · exact .inr ⟨a, x, b, c, d.keep k hS⟩
theorem ERes.kp {H0 H H' : AHeap} {bad : Int} {g : (Nat → Bool) → Bool} {ns : AC} {root err : Int} (h : ERes H0 H bad g ns root err) (k : Kp H H') : ERes H0 H' bad g ns root err := h.keep k fun _ h => h.elim
theorem ERes.from {H0 H1 H : AHeap} {bad : Int} {g : (Nat → Bool) → Bool} {ns : AC} {root err : Int} (h : ERes H1 H bad g ns root err) (hs : H0.size ≤ H1.size) : ERes H0 H bad g ns root err := by
  rcases h with ⟨a, b, c, d⟩ | ⟨a, x, b, c, d⟩
  · exact .inl ⟨a, b, c, d⟩
  · exact .inr ⟨a, x, b, c, d.from hs⟩
theorem ERes.same {H0 H0' H : AHeap} {bad : Int} {g g' : (Nat → Bool) → Bool} {ns ns' : AC} {r r' e e' : Int} (h : ERes H0 H bad g ns r e) (h' : ERes H0' H bad g' ns' r' e') (hg : bad = 0 → ∀ ρ, g ρ = g' ρ) : e = e' ∧ r = r' ∧ ∃ l : List NRow, l.length ≤ 2000 ∧ SlR H ns 3 (nodeRows l) ∧ SlR H ns' 3 (nodeRows l) := by
  rcases h with ⟨a, rfl, rfl, d⟩ | ⟨a, x, b, c, d⟩ <;> rcases h' with ⟨a', rfl, rfl, d'⟩ | ⟨a', x', b', c', d'⟩
  · exact ⟨rfl, rfl, [], by simp, d, d'⟩
  · exact absurd a' a
  · exact absurd a a'
  · have : x = x' := canon' b b' fun ρ => (c ρ).trans ((hg a ρ).trans (c' ρ).symm)
    subst this
    exact d.res.same d'.res

/-- The function of a diagram. -/
def dVal (l : List NRow) (r : Int) (ρ : Nat → Bool) : Bool := (atR (bld l) r).eval ρ
end Go.Proofs.Ytanaaabejeeakaa
end
section
/- Not; the law that Apply follows the formulas. -/
namespace Go.Proofs.Ytanaaabejeeakaa
open Go.AI Go.AI.DT

/-- An answer without fault: its diagram is one that is taken, and has that function. -/
theorem ERes.diag {H0 H : AHeap} {bad : Int} {g : (Nat → Bool) → Bool} {ns : AC} {root err : Int} (h : ERes H0 H bad g ns root err) (he : err = 0) : bad = 0 ∧ ∃ l : List NRow, SlR H ns 3 (nodeRows l) ∧ dFault l root = 0 ∧ l.length ≤ 2000 ∧ ∀ ρ, dVal l root ρ = g ρ := by
  rcases h with ⟨a, b, _, _⟩ | ⟨a, x, b, c, d⟩
  · exact absurd (b.symm.trans he) a
  · rcases d.res with ⟨_, d2, _⟩ | ⟨d1, _, rfl, d4⟩
    · rw [d2] at he; cases he
    · have hcan : CanonD (rowsOf x) (ref (ser x []) x) := ⟨x, b, rfl, rfl⟩
      have hl : (rowsOf x).length ≤ 2000 := by rw [List.length_map]; exact d1
      refine ⟨a, _, d4, dFault_zero hl hcan, hl, fun ρ => ?_⟩
      unfold dVal
      rw [bld_rows (ser_seq x [] b Seq.nil), atR_ref (ser_in x [])]
      exact c ρ
theorem ERes.zero {H0 H : AHeap} {bad : Int} {g : (Nat → Bool) → Bool} {ns : AC} {root err : Int} (h : ERes H0 H bad g ns root err) (he : err = 0) : bad = 0 := (h.diag he).1

end Go.Proofs.Ytanaaabejeeakaa
end
section
/- The table of a diagram. -/
namespace Go.Proofs.Ytanaaabejeeakaa
open Go.AI Go.AI.DT

end Go.Proofs.Ytanaaabejeeakaa
end
section
/- Rows that are those of trees, none twice; which walk makes them all. -/
namespace Go.AI
open DT

/-- No row has equal parts, none stands twice. -/
def OneOk (l : List NRow) (i : Nat) (p : NRow) : Prop := p.2.1 ≠ p.2.2 ∧ ∀ j q, j < i → l[j]? = some q → q ≠ p
theorem atR_in {l : List NRow} {r : Int} {i : Nat} (hi : i ≤ l.length) (h1 : -2 ≤ r) (h2 : r < i) (f : Fin (bld (l.take i))) : In (bld (l.take i)) (atR (bld (l.take i)) r) ∧ ref (bld (l.take i)) (atR (bld (l.take i)) r) = r := by
  unfold atR
  by_cases e1 : r = -1
  · subst e1; exact ⟨.inl ⟨false, rfl⟩, rfl⟩
  rw [if_neg e1]
  by_cases e2 : r = -2
  · subst e2; exact ⟨.inl ⟨true, rfl⟩, rfl⟩
  rw [if_neg e2]
  have hlt : r.toNat < (bld (l.take i)).length := by rw [bld_len, List.length_take]; omega
  rw [List.getElem?_eq_getElem hlt, Option.getD_some]
  refine ⟨.inr (List.getElem_mem _), ?_⟩
  rw [ref_idx f (List.getElem?_eq_getElem hlt)]
  omega
theorem strict_seq {l : List NRow} (h : RowsOk l) (h2 : ∀ i p, l[i]? = some p → OneOk l i p) : Seq (bld l) ∧ (bld l).map (row (bld l)) = l := by
  have key : ∀ n, n ≤ l.length → Seq (bld (l.take n)) ∧ (bld (l.take n)).map (row (bld (l.take n))) = l.take n := by
    intro n
    induction n with
    | zero => intro _; exact ⟨Seq.nil, rfl⟩
    | succ n ih =>
      intro hn
      obtain ⟨s1, s2⟩ := ih (by omega)
      have hp : l[n]? = some l[n] := List.getElem?_eq_getElem (by omega)
      obtain ⟨p, hpe⟩ : ∃ p, p = l[n] := ⟨_, rfl⟩
      rw [← hpe] at hp
      obtain ⟨hnum, hord⟩ := h n p hp
      obtain ⟨hne, hdup⟩ := h2 n p hp
      have hnum' := hnum
      unfold NumOk at hnum'
      have hlen : (bld (l.take n)).length = n := by rw [bld_len, List.length_take]; omega
      obtain ⟨in1, e1⟩ := atR_in (l := l) (i := n) (r := p.2.1) (by omega) hnum'.2.2.1 hnum'.2.2.2.1 s1.1
      obtain ⟨in2, e2⟩ := atR_in (l := l) (i := n) (r := p.2.2) (by omega) hnum'.2.2.2.2.1 hnum'.2.2.2.2.2 s1.1
      obtain ⟨x, hx, hro, _⟩ := bld_ro h _ n p (Nat.lt_succ_self _) hp
      have hb := bld_at hp hnum
      rw [hb] at hx
      simp only [Option.some.injEq] at hx
      have hpre := bld_take_pre l n
      rw [atR_mono hpre hnum'.2.2.1 (by rw [hlen]; omega), atR_mono hpre hnum'.2.2.2.2.1 (by rw [hlen]; omega)] at hx
      rw [bld_take_succ hp]
      unfold bldStep
      obtain ⟨ts, hts⟩ : ∃ ts, ts = bld (l.take n) := ⟨_, rfl⟩
      rw [← hts] at s1 s2 in1 e1 in2 e2 hx hlen ⊢
      obtain ⟨a, ha⟩ : ∃ a, a = atR ts p.2.1 := ⟨_, rfl⟩
      obtain ⟨b, hb'⟩ : ∃ b, b = atR ts p.2.2 := ⟨_, rfl⟩
      rw [← ha] at in1 e1 hx ⊢
      rw [← hb'] at in2 e2 hx ⊢
      have hab : a ≠ b := fun e => hne (by rw [← e1, ← e2, e])
      have hmk : DT.mk p.1.toNat a b = nd p.1.toNat a b := by unfold DT.mk; rw [if_neg hab]
      rw [hmk] at hx ⊢
      subst hx
      have hnin : nd p.1.toNat a b ∉ ts := by
        intro hm
        obtain ⟨j, hj, e⟩ := List.getElem_of_mem hm
        have hq : (ts.map (row ts))[j]? = some (row ts (nd p.1.toNat a b)) := by rw [List.getElem?_map, List.getElem?_eq_getElem hj, e]; rfl
        rw [s2, List.getElem?_take, if_pos (by omega)] at hq
        refine hdup j _ (by omega) hq ?_
        simp only [row, e1, e2]
        refine Prod.ext ?_ rfl
        show ((p.1.toNat : Nat) : Int) = p.1
        omega
      refine ⟨s1.snoc hnin in1 in2 hro, ?_⟩
      have hp' : ts <+: ts ++ [nd p.1.toNat a b] := List.prefix_append _ _
      rw [List.map_append, s1.1.row_mono hp', s2, List.take_add_one, hp]
      simp only [List.map_cons, List.map_nil, row, ref_mono in1 hp', ref_mono in2 hp', e1, e2, Option.toList_some]
      congr 2
      refine Prod.ext ?_ rfl
      show ((p.1.toNat : Nat) : Int) = p.1
      omega
  have := key l.length (Nat.le_refl _)
  rwa [List.take_length] at this

theorem CanonD.strict {l : List NRow} {r : Int} (h : CanonD l r) : ∀ i p, l[i]? = some p → OneOk l i p := by
  obtain ⟨x, hx, rfl, rfl⟩ := h
  have f := ser_seq x [] hx Seq.nil
  intro i p hp
  rw [List.getElem?_map, Option.map_eq_some_iff] at hp
  obtain ⟨y, hy, rfl⟩ := hp
  obtain ⟨v, a, b, rfl, h1, h2, h3⟩ := f.1.parts y (List.mem_of_getElem? hy)
  refine ⟨fun e => h3.2.1 (ref_inj h1 h2 e), fun j q hj hq e => ?_⟩
  rw [List.getElem?_map, Option.map_eq_some_iff] at hq
  obtain ⟨z, hz, rfl⟩ := hq
  obtain ⟨w, c, d, rfl, g1, g2, _⟩ := f.1.parts z (List.mem_of_getElem? hz)
  simp only [row, Prod.mk.injEq] at e
  obtain ⟨e1, e2, e3⟩ := e
  have e4 := ref_inj g1 h1 e2
  have e5 := ref_inj g2 h2 e3
  have e6 : w = v := by omega
  subst e4 e5 e6
  have := ref_idx f.1 hz
  rw [ref_idx f.1 hy] at this
  omega

/-- The last of a walk is the tree itself. -/
theorem ser_last {v : Nat} {l h : DT} : ∃ st, ser (nd v l h) [] = st ++ [nd v l h] ∧ nd v l h ∉ st := by
  refine ⟨ser h (ser l []), ?_, ser_new (by simp)⟩
  simp only [ser]
  rw [if_neg (by simp)]
theorem CanonD.root {l : List NRow} {r : Int} (h : CanonD l r) : if l = [] then r = -1 ∨ r = -2 else r = (l.length : Int) - 1 := by
  obtain ⟨x, hx, rfl, rfl⟩ := h
  cases x with
  | leaf b => cases b <;> simp [ser, ref]
  | nd v a b =>
    obtain ⟨st, e, hn⟩ := ser_last (v := v) (l := a) (h := b)
    rw [e, if_neg (by simp), ref_new hn]
    simp
theorem ser_sub {st : List DT} (f : Fin st) : ∀ (x : DT) (acc : List DT), In st x → (∀ y ∈ acc, y ∈ st) → ∀ y ∈ ser x acc, y ∈ st
  | leaf _, acc, _, h, y, hy => h y hy
  | nd v l r, acc, hx, h, y, hy => by
    have hm : nd v l r ∈ st := hx.elim (fun ⟨b, e⟩ => by cases e) id
    obtain ⟨_, _, _, e, h1, h2, _⟩ := f.parts _ hm
    cases e
    simp only [ser] at hy
    split at hy
    · exact h y hy
    · rcases List.mem_append.1 hy with hy | hy
      · exact ser_sub f r _ h2 (ser_sub f l _ h1 h) y hy
      · simp at hy; subst hy; exact hm
theorem ser_all {st : List DT} {x : DT} (hl : (ser x []).length = st.length) (hi : ∀ (i : Nat) (y : DT), (ser x [])[i]? = some y → ref st y = i) (hsub : ∀ y ∈ ser x [], y ∈ st) : ser x [] = st := by
  apply List.ext_getElem?
  intro i
  by_cases h : i < st.length
  · have hy : (ser x [])[i]? = some (ser x [])[i] := List.getElem?_eq_getElem (by omega)
    have e := hi i _ hy
    have hm : In st (ser x [])[i] := .inr (hsub _ (List.getElem_mem _))
    have hg := ref_get hm (by omega)
    rw [e, Int.toNat_natCast] at hg
    rw [hy, hg]
  · rw [List.getElem?_eq_none (by omega), List.getElem?_eq_none (by omega)]
end Go.AI
end
section
/- The reference's check of a diagram. -/
namespace Go.Proofs.Ytanaaabejeeakaa
open Go.AI Go.AI.DT

/-- The numbers of some nodes. -/
def refRows (st acc : List DT) : List (List AC) := acc.map fun y => [AC.int .i64 (ref st y)]
theorem refRow_at {st acc : List DT} {i : Nat} {y : DT} (h : acc[i]? = some y) : (refRows st acc)[i]? = some [AC.int .i64 (ref st y)] := by
  unfold refRows; rw [List.getElem?_map, h]; rfl

theorem numbered_c {st : List DT} {s : AC} {r0 : Int} {H0 : AHeap} (hs : SlR H0 s 3 (nodeRows (st.map (row st)))) (hfin : Fin st) (hlen : st.length ≤ 2000) : ∀ (x : DT) {H : AHeap} {Fo : Nat → Prop} {a : AC} {acc : List DT}, In st x → Old H0 H → OwnS H a 1 Fo (refRows st acc) → (∀ y, Fo y → H0.size ≤ y) → (∀ y ∈ acc, y ∈ st) → Fin acc →
    Fn.fetterlockref6_numbered s r0 (ref st x) a H fun H' q => ∃ Fo', OwnS H' q 1 Fo' (refRows st (ser x acc)) ∧ Keep Fo H H' ∧ ∀ y, Fo' y → Fo y ∨ H.size ≤ y := by
  intro x
  induction x with
  | leaf b =>
    intro H Fo a acc hx ho ha hFo hsub hfa
    refine fetterlockref6_numbered.run ?_
    unfold fetterlockref6_numbered.W
    refine New.own fun b1 H1 hb1 hs1 o1 k1 => CondB.pos ?_ ⟨Fo, ha.kp k1, k1.mono fun _ _ h => h.elim, fun y h => .inl h⟩
    rw [decide_eq_true_iff]; exact ref_leaf.2 ⟨b, rfl⟩
  | nd v l h ihl ihh =>
    intro H Fo a acc hx ho ha hFo hsub hfa
    have h0 : 0 ≤ ref st (nd v l h) := by rw [ref_ge]; omega
    have hg := ref_get hx h0
    have hxm : nd v l h ∈ st := List.mem_of_getElem? hg
    obtain ⟨inl, inh, hro⟩ : In st l ∧ In st h ∧ (nd v l h).RO := by
      obtain ⟨_, _, _, e0, a1, a2, a3⟩ := hfin.parts _ hxm
      cases e0
      exact ⟨a1, a2, a3⟩
    have hrow : (nodeRows (st.map (row st)))[(ref st (nd v l h)).toNat]? = some (nodeCells ((v : Int), ref st l, ref st h)) := nodeRow_at (by rw [List.getElem?_map, hg]; rfl)
    refine fetterlockref6_numbered.run ?_
    unfold fetterlockref6_numbered.W
    refine New.own fun b1 H1 hb1 hs1 o1 k1 => CondB.neg (by rw [decide_eq_false_iff_not]; omega) ?_
    have ho1 := ho.kp k1
    have ha1 := ha.kp k1
    have hal : acc.length ≤ 2000 := Nat.le_trans (hfa.nodup.length_le_of_subset fun y hy => hsub y hy) hlen
    have hz0 := ho.1
    unfold fetterlockref6_numbered.l14
    refine LoopT.rule (fun m s0 H2 => ∃ i : Nat, i ≤ acc.length ∧ m = acc.length - i ∧ s0 = (ref st (nd v l h), a, .ptr (some (b1, 0)), (i : Int), ()) ∧ H2 = H1 ∧ ∀ j y, j < i → acc[j]? = some y → y ≠ nd v l h) acc.length ⟨0, by omega, by omega, rfl, rfl, fun j y hj => by omega⟩ ?_
    rintro m s0 H2 back ⟨i, hi, rfl, rfl, rfl, hall⟩ hback
    simp only [fetterlockref6_numbered.b14]
    refine LenS.of ha1.slr ?_
    rw [show (refRows st acc).length = acc.length from List.length_map ..]
    refine CondB.dec (fun hlt => ?_) fun hge => ?_
    · have hi' : i < acc.length := by omega
      obtain ⟨y, hy⟩ : ∃ b, acc[i]? = some b := ⟨_, List.getElem?_eq_getElem hi'⟩
      have hym := hsub y (List.mem_of_getElem? hy)
      refine IA.of ha1.slr (by omega) (by rw [Int.toNat_natCast]; exact refRow_at hy) fun b o hld => Ld.a1 hld (ref st y) rfl rfl ?_
      refine CondB.mk (fun hc => ?_) fun hc => ?_
      · have he : y = nd v l h := ref_inj (.inr hym) hx (by simpa using hc)
        have hser : ser (nd v l h) acc = acc := by simp only [ser]; rw [if_pos (by rw [← he]; exact List.mem_of_getElem? hy)]
        exact ⟨Fo, by rw [hser]; exact ha1, k1.mono fun _ _ h => h.elim, fun y h => .inl h⟩
      · refine hback (acc.length - (i + 1)) _ _ (by omega) ⟨i + 1, by omega, rfl, ?_, rfl, fun j z hj hz => ?_⟩
        · exact tc rfl (tc rfl (tc rfl (tc ((wrap64 (by omega) (by omega)).trans (by omega)) rfl)))
        · by_cases hji : j = i
          · subst hji
            rw [hy] at hz
            cases hz
            intro e
            rw [e] at hc
            simp at hc
          · exact hall j z (by omega) hz
    · have hnin : nd v l h ∉ acc := fun hm => by
        obtain ⟨j, hj, e⟩ := List.getElem_of_mem hm
        exact hall j _ (by omega) (List.getElem?_eq_getElem hj) e
      have hser : ser (nd v l h) acc = ser h (ser l acc) ++ [nd v l h] := by simp only [ser]; rw [if_neg hnin]
      refine Ld.o2 o1 s r0 rfl (FA.mk (Ld.oc o1 rfl (IA.of (hs.old ho1) h0 hrow fun b o hld => FA.mk (Ld.ei hld rfl ?_))))
      refine RunT.imp ?_ (ihl inl ho1 ha1 hFo hsub hfa)
      rintro H3 (q : AC) ⟨Fo3, ha3, k3, fr3⟩
      have ho3 := ho1.keep k3 hFo
      have hb1lt := o1.lt
      have hnb : ¬ Fo b1 := fun e => by have := ha.lt b1 e; omega
      have o13 := o1.keep k3 hnb
      have hFo3 : ∀ y, Fo3 y → H0.size ≤ y := fun y e => (fr3 y e).elim (hFo y) fun e => by have := k1.size; omega
      refine Ld.o2 o13 s r0 rfl (FA.mk (Ld.oc o13 rfl (IA.of (hs.old ho3) h0 hrow fun b o hld => FA.mk (Ld.ei hld rfl ?_))))
      have hsub3 := ser_sub hfin l acc inl hsub
      have hfa3 := ser_fin l acc hro.2.2.2.2.1 hfa
      refine RunT.imp ?_ (ihh inh ho3 ha3 hFo3 hsub3 hfa3)
      rintro H4 (q2 : AC) ⟨Fo4, ha4, k4, fr4⟩
      have hsub4 := ser_sub hfin h _ inh hsub3
      have hfa4 := ser_fin h _ hro.2.2.2.2.2 hfa3
      have hl4 : (ser h (ser l acc)).length ≤ 2000 := Nat.le_trans (hfa4.nodup.length_le_of_subset fun y hy => hsub4 y hy) hlen
      have hrl : (refRows st (ser h (ser l acc))).length = (ser h (ser l acc)).length := List.length_map ..
      refine NewS.own fun pb H5 hpb hs5 op k5 => ?_
      refine App.own (ha4.kp k5) (r := [AC.int .i64 (ref st (nd v l h))]) ⟨pb, _, rfl, op.all⟩ rfl (by rw [hrl]; omega) (by rw [hrl]; omega) fun s6 H6 sl6 k6 hs6 => ?_
      have hz1 := k1.size
      have hz3 := k3.size
      have hz4 := k4.size
      refine ⟨_, by rw [hser]; unfold refRows at sl6 ⊢; rw [List.map_append]; exact sl6, ?_, ?_⟩
      · have t1 : Keep Fo H H3 := Kp.andThen k1 k3
        have t2 : Keep Fo H H4 := Keep.trans t1 k4 fun y hy e => (fr3 y e).elim id fun e => by omega
        exact Keep.trans (Keep.trans' t2 k5) k6 fun y hy e => (fr4 y e).elim (fun e => (fr3 y e).elim id fun e => by omega) fun e => by omega
      · rintro y (e | e)
        · rcases fr4 y e with e | e
          · rcases fr3 y e with e | e
            · exact .inl e
            · exact .inr (by omega)
          · exact .inr (by omega)
        · exact .inr (by omega)

theorem DiagramFault_c {s : AC} {l : List NRow} {r : Int} {H : AHeap} (hs : SlR H s 3 (nodeRows l)) :
    Fn.fetterlockref6_DiagramFault s r H fun H' q => q = dFault l r ∧ Kp H H' := by
  refine fetterlockref6_DiagramFault.run ?_
  unfold fetterlockref6_DiagramFault.W
  refine New.own fun b1 H1 hb1 hs1 o1 k1 => FA.mk (Ld.oc o1 rfl (LenS.of (hs.kp k1) ?_))
  rw [nodeRows_len]
  refine CondB.dec (fun hgt => ⟨?_, k1⟩) fun hle => ?_
  · unfold dFault; rw [if_pos (by omega)]
  have hlen : l.length ≤ 2000 := by omega
  unfold fetterlockref6_DiagramFault.l14
  refine LoopT.rule (fun m s0 H2 => ∃ i : Nat, i ≤ l.length ∧ m = l.length - i ∧ s0 = (.ptr (some (b1, 0)), (i : Int), ()) ∧ Kp H H2 ∧ Own H2 b1 [s, .int .i64 r] ∧ scan 0 l = scan i (l.drop i)) l.length
    ⟨0, by omega, by omega, rfl, k1, o1, rfl⟩ ?_
  rintro m s0 H2 back ⟨i, hi, rfl, rfl, k2, o12, hsc⟩ hback
  simp only [fetterlockref6_DiagramFault.b14]
  refine FA.mk (Ld.oc o12 rfl (LenS.of (hs.kp k2) ?_))
  rw [nodeRows_len]
  refine CondB.dec (fun hlt => ?_) fun hge => ?_
  · have hi' : i < l.length := by omega
    obtain ⟨p, hp⟩ : ∃ b, l[i]? = some b := ⟨_, List.getElem?_eq_getElem hi'⟩
    rw [scan_drop hp] at hsc
    refine FA.mk (Ld.oc o12 rfl (IA.of (hs.kp k2) (by omega) (by rw [Int.toNat_natCast]; exact nodeRow_at hp) fun b o hld => Ld.a3 hld p.1 p.2.1 p.2.2 rfl rfl ?_))
    refine NewSto.own rfl fun nb H3 hnb hs3 on k3 => FA.mk (Ld.oi on rfl ?_)
    have kk := k2.trans k3
    unfold fetterlockref6_DiagramFault.p28
    refine CondB.dec (fun h0 => CondB.pos rfl ⟨?_, kk⟩) fun h0 => FA.mk (Ld.oi on rfl (CondB.dec (fun h1 => ⟨?_, kk⟩) fun h1 => ?_))
    · rw [if_pos (.inl h0)] at hsc; exact (dFault_scan hlen hsc (by omega)).symm
    · rw [if_pos (.inr (by omega))] at hsc; exact (dFault_scan hlen hsc (by omega)).symm
    rw [if_neg (by omega)] at hsc
    unfold fetterlockref6_DiagramFault.p35
    refine FA.mk (Ld.oi on rfl (CondB.dec (fun h2 => CondB.pos rfl ⟨?_, kk⟩) fun h2 => FA.mk (Ld.oi on rfl (CondB.dec (fun h3 => CondB.pos rfl ⟨?_, kk⟩) fun h3 => FA.mk (Ld.oi on rfl (CondB.dec (fun h4 => CondB.pos rfl ⟨?_, kk⟩) fun h4 => FA.mk (Ld.oi on rfl (CondB.dec (fun h5 => ⟨?_, kk⟩) fun h5 => ?_))))))))
    · rw [if_pos (by omega)] at hsc; exact (dFault_scan hlen hsc (by omega)).symm
    · rw [if_pos (by omega)] at hsc; exact (dFault_scan hlen hsc (by omega)).symm
    · rw [if_pos (by omega)] at hsc; exact (dFault_scan hlen hsc (by omega)).symm
    · rw [if_pos (by omega)] at hsc; exact (dFault_scan hlen hsc (by omega)).symm
    rw [if_neg (by omega)] at hsc
    refine hback (l.length - (i + 1)) _ _ (by omega) ⟨i + 1, by omega, rfl, ?_, kk, o12.kp k3, hsc⟩
    exact tc rfl (tc ((wrap64 (by omega) (by omega)).trans (by omega)) rfl)
  have hsc0 : scan 0 l = 0 := by
    rw [hsc, List.drop_eq_nil_iff.2 (by omega)]; rfl
  have hnum : ∀ j p, l[j]? = some p → NumOk j p := fun j p hp => by have := scan_ok.1 hsc0 j p hp; rwa [Nat.zero_add] at this
  unfold fetterlockref6_DiagramFault.l45
  refine LoopT.rule (fun m s0 H3 => ∃ i : Nat, i ≤ l.length ∧ m = l.length - i ∧ s0 = (.ptr (some (b1, 0)), (i : Int), ()) ∧ Kp H H3 ∧ Own H3 b1 [s, .int .i64 r] ∧ ∀ j p, j < i → l[j]? = some p → OrdOk l p ∧ OneOk l j p) l.length
    ⟨0, by omega, by omega, rfl, k2, o12, fun j p h => by omega⟩ ?_
  clear hback back
  rintro m s0 H3 back ⟨i, hi, rfl, rfl, k3, o13, hord⟩ hback
  simp only [fetterlockref6_DiagramFault.b45]
  refine FA.mk (Ld.oc o13 rfl (LenS.of (hs.kp k3) ?_))
  rw [nodeRows_len]
  refine CondB.dec (fun hlt => ?_) fun hge => ?_
  · have hi' : i < l.length := by omega
    obtain ⟨p, hp⟩ : ∃ b, l[i]? = some b := ⟨_, List.getElem?_eq_getElem hi'⟩
    have hn := hnum i p hp
    unfold NumOk at hn
    obtain ⟨n1, n2, n3, n4, n5, n6⟩ := hn
    refine FA.mk (Ld.oc o13 rfl (IA.of (hs.kp k3) (by omega) (by rw [Int.toNat_natCast]; exact nodeRow_at hp) fun b o hld => Ld.a3 hld p.1 p.2.1 p.2.2 rfl rfl ?_))
    refine NewSto.own rfl fun nb H4 hnb hs4 on k4 => FA.mk (Ld.oi on rfl (FA.mk (Ld.oi on rfl ?_)))
    have kk := k3.trans k4
    have o14 := o13.kp k4
    have badR : ¬ CanonD l r → fetterlockref6_DiagramFault.p59 (fun H' q => q = dFault l r ∧ Kp H H') back (.ptr (some (b1, 0))) (i : Int) (.ptr (some (nb, 0))) true H4 := by
      intro h
      unfold fetterlockref6_DiagramFault.p59
      exact CondB.pos rfl ⟨(dFault_two hlen hsc0 h).symm, kk⟩
    have goodR : OrdOk l p → p.2.1 ≠ p.2.2 → fetterlockref6_DiagramFault.p59 (fun H' q => q = dFault l r ∧ Kp H H') back (.ptr (some (b1, 0))) (i : Int) (.ptr (some (nb, 0))) false H4 := by
      intro h1 h2
      unfold fetterlockref6_DiagramFault.p59
      refine CondB.neg rfl ?_
      unfold fetterlockref6_DiagramFault.l67
      refine LoopT.rule (fun m s0 H6 => ∃ k : Nat, k ≤ i ∧ m = i - k ∧ s0 = (.ptr (some (b1, 0)), (i : Int), .ptr (some (nb, 0)), (k : Int), ()) ∧ H6 = H4 ∧ ∀ j q, j < k → l[j]? = some q → q ≠ p) i ⟨0, by omega, rfl, rfl, rfl, fun j q h => by omega⟩ ?_
      rintro m s0 H6 back2 ⟨k, hk, rfl, rfl, rfl, hdup⟩ hback2
      simp only [fetterlockref6_DiagramFault.b67]
      refine CondB.dec (fun hlt2 => ?_) fun hge2 => ?_
      · obtain ⟨q, hq⟩ : ∃ b, l[k]? = some b := ⟨_, List.getElem?_eq_getElem (by omega)⟩
        refine FA.mk (Ld.oc o14 rfl (IA.of (hs.kp kk) (by omega) (by rw [Int.toNat_natCast]; exact nodeRow_at hq) fun b o hld => Ld.a3 hld q.1 q.2.1 q.2.2 rfl rfl (Ld.o3 on p.1 p.2.1 p.2.2 rfl ?_)))
        refine CondB.mk (fun hc => ⟨?_, kk⟩) fun hc => ?_
        · have e : q = p := by
            simp only [decide_eq_true_eq, List.cons.injEq, and_true] at hc
            exact Prod.ext hc.1 (Prod.ext hc.2.1 hc.2.2)
          exact (dFault_two hlen hsc0 fun hcan => (hcan.strict i p hp).2 k q (by omega) hq e).symm
        · refine hback2 (i - (k + 1)) _ _ (by omega) ⟨k + 1, by omega, rfl, ?_, rfl, fun j z hj hz => ?_⟩
          · exact tc rfl (tc rfl (tc rfl (tc ((wrap64 (by omega) (by omega)).trans (by omega)) rfl)))
          · by_cases hjk : j = k
            · subst hjk
              rw [hq] at hz
              cases hz
              rintro rfl
              simp at hc
            · exact hdup j z (by omega) hz
      · refine hback (l.length - (i + 1)) _ _ (by omega) ⟨i + 1, by omega, rfl, ?_, kk, o14, fun j q hj hq => ?_⟩
        · exact tc rfl (tc ((wrap64 (by omega) (by omega)).trans (by omega)) rfl)
        · by_cases hji : j = i
          · subst hji
            rw [hp] at hq
            cases hq
            exact ⟨h1, h2, fun j' q' hj' hq' => hdup j' q' (by omega) hq'⟩
          · exact hord j q (by omega) hq
    refine CondB.eq (fun he => badR fun hcan => (hcan.strict i p hp).1 he) fun hne => ?_
    -- a part's variable
    have part : ∀ (c : Int) (k : AHeap → Bool → Prop), 0 ≤ c → c < l.length → (∀ q, l[c.toNat]? = some q → k H4 (decide (q.1 ≤ p.1))) →
        FA 0 (.ptr (some (b1, 0))) fun q_30 => Ld [.ac] H4 q_30 fun (v_31 : AC) => IA 3 v_31 c fun q_34 => FA 0 q_34 fun q_35 => Ld [.int .i64] H4 q_35 fun (v_36 : Int) =>
          FA 0 (.ptr (some (nb, 0))) fun q_37 => Ld [.int .i64] H4 q_37 fun (v_38 : Int) => k H4 (decide (v_36 ≤ v_38)) := by
      intro c k h0 h1 hk
      obtain ⟨q, hq⟩ : ∃ b, l[c.toNat]? = some b := ⟨_, List.getElem?_eq_getElem (by omega)⟩
      exact FA.mk (Ld.oc o14 rfl (IA.of (hs.kp kk) h0 (nodeRow_at hq) fun b o hld => FA.mk (Ld.ei hld rfl (FA.mk (Ld.oi on rfl (hk q hq))))))
    have badO : ∀ q, (0 ≤ p.2.1 ∧ l[p.2.1.toNat]? = some q ∨ 0 ≤ p.2.2 ∧ l[p.2.2.toNat]? = some q) → q.1 ≤ p.1 → ¬ CanonD l r := by
      intro q hq hle hcan
      have := (hcan.of.1 i p hp).2
      rcases hq with ⟨h0, hq⟩ | ⟨h0, hq⟩
      · have := this.1 q h0 hq; omega
      · have := this.2 q h0 hq; omega
    have second : (∀ q, 0 ≤ p.2.1 → l[p.2.1.toNat]? = some q → p.1 < q.1) → 0 ≤ p.2.2 → ∀ q, l[p.2.2.toNat]? = some q → fetterlockref6_DiagramFault.p59 (fun H' q => q = dFault l r ∧ Kp H H') back (.ptr (some (b1, 0))) (i : Int) (.ptr (some (nb, 0))) (decide (q.1 ≤ p.1)) H4 := by
      intro h1 h0 q hq
      by_cases hle : q.1 ≤ p.1
      · rw [decide_eq_true hle]; exact badR (badO q (.inr ⟨h0, hq⟩) hle)
      · rw [decide_eq_false hle]
        refine goodR ⟨h1, fun q' _ hq' => ?_⟩ hne
        rw [hq] at hq'; cases hq'; omega
    refine FA.mk (Ld.oi on rfl (CondB.dec (fun h1 => ?_) fun h1 => ?_))
    · obtain ⟨q1, hq1⟩ : ∃ b, l[p.2.1.toNat]? = some b := ⟨_, List.getElem?_eq_getElem (by omega)⟩
      refine FA.mk (Ld.oc o14 rfl (FA.mk (Ld.oi on rfl (IA.of (hs.kp kk) h1 (nodeRow_at hq1) fun b o hld => FA.mk (Ld.ei hld rfl (FA.mk (Ld.oi on rfl ?_)))))))
      refine CondB.dec (fun h2 => badR (badO q1 (.inl ⟨h1, hq1⟩) h2)) fun h2 => ?_
      have hlo : ∀ q, 0 ≤ p.2.1 → l[p.2.1.toNat]? = some q → p.1 < q.1 := fun q _ hq => by rw [hq1] at hq; cases hq; omega
      refine FA.mk (Ld.oi on rfl (CondB.dec (fun h3 => ?_) fun h3 => goodR ⟨hlo, fun q h0 => by omega⟩ hne))
      obtain ⟨q2, hq2⟩ : ∃ b, l[p.2.2.toNat]? = some b := ⟨_, List.getElem?_eq_getElem (by omega)⟩
      exact FA.mk (Ld.oc o14 rfl (FA.mk (Ld.oi on rfl (IA.of (hs.kp kk) h3 (nodeRow_at hq2) fun b o hld => FA.mk (Ld.ei hld rfl (FA.mk (Ld.oi on rfl (second hlo h3 q2 hq2))))))))
    · have hlo : ∀ q, 0 ≤ p.2.1 → l[p.2.1.toNat]? = some q → p.1 < q.1 := fun q h0 => by omega
      refine FA.mk (Ld.oi on rfl (CondB.dec (fun h3 => ?_) fun h3 => goodR ⟨hlo, fun q h0 => by omega⟩ hne))
      obtain ⟨q2, hq2⟩ : ∃ b, l[p.2.2.toNat]? = some b := ⟨_, List.getElem?_eq_getElem (by omega)⟩
      exact FA.mk (Ld.oc o14 rfl (FA.mk (Ld.oi on rfl (IA.of (hs.kp kk) h3 (nodeRow_at hq2) fun b o hld => FA.mk (Ld.ei hld rfl (FA.mk (Ld.oi on rfl (second hlo h3 q2 hq2))))))))
  have hall : ∀ j p, l[j]? = some p → OrdOk l p ∧ OneOk l j p := fun j p hp => hord j p (by have := (List.getElem?_eq_some_iff.1 hp).1; omega) hp
  have hok : RowsOk l := fun j p hp => ⟨hnum j p hp, (hall j p hp).1⟩
  obtain ⟨hseq, hrows⟩ := strict_seq hok fun j p hp => (hall j p hp).2
  refine FA.mk (Ld.oc o13 rfl (LenS.of (hs.kp k3) ?_))
  rw [nodeRows_len]
  unfold fetterlockref6_DiagramFault.p92
  refine CondB.eq (fun h0 => ?_) fun h0 => ?_
  · have hl0 : l = [] := List.eq_nil_of_length_eq_zero (by omega)
    have leafC : ∀ b : Bool, r = ref [] (leaf b) → CanonD l r := fun b e => ⟨leaf b, trivial, by rw [hl0]; rfl, by rw [e]; cases b <;> rfl⟩
    refine FA.mk (Ld.oi o13 rfl (CondB.ne (fun h1 => FA.mk (Ld.oi o13 rfl (CondB.ne (fun h2 => ⟨?_, k3⟩) fun h2 => ⟨?_, k3⟩))) fun h1 => CondB.neg rfl ⟨?_, k3⟩))
    · exact (dFault_two hlen hsc0 fun hcan => by
        have := hcan.root
        rw [if_pos hl0] at this
        omega).symm
    · exact (dFault_zero hlen (leafC true h2)).symm
    · exact (dFault_zero hlen (leafC false h1)).symm
  · have hl0 : l ≠ [] := fun e => h0 (by rw [e]; rfl)
    have hpos : 0 < l.length := List.length_pos_iff.2 hl0
    refine FA.mk (Ld.oi o13 rfl (FA.mk (Ld.oc o13 rfl (LenS.of (hs.kp k3) ?_))))
    rw [nodeRows_len, show IntKind.wrap .i64 ((l.length : Int) - 1) = (l.length : Int) - 1 from wrap64 (by omega) (by omega)]
    refine CondB.ne (fun h1 => ⟨?_, k3⟩) fun h1 => ?_
    · exact (dFault_two hlen hsc0 fun hcan => by
        have := hcan.root
        rw [if_neg hl0] at this
        exact h1 this).symm
    obtain ⟨st, hst⟩ : ∃ st, st = bld l := ⟨_, rfl⟩
    rw [← hst] at hseq hrows
    have hstl : st.length = l.length := by rw [hst, bld_len]
    obtain ⟨x, hx⟩ : ∃ x, x = st[l.length - 1]'(by omega) := ⟨_, rfl⟩
    have hget : st[l.length - 1]? = some x := by rw [hx]; exact List.getElem?_eq_getElem (by omega)
    have hxin : In st x := .inr (List.mem_of_getElem? hget)
    have hxref : ref st x = r := by rw [ref_idx hseq.1 hget]; omega
    have hsl : SlR H3 s 3 (nodeRows (st.map (row st))) := by rw [hrows]; exact hs.kp k3
    have hxro := hseq.1.ro hxin
    refine Ld.o2 o13 s r rfl (FA.mk (Ld.oi o13 rfl ?_))
    rw [← hxref]
    refine RunT.imp ?_ (numbered_c hsl hseq.1 (by omega) x hxin (Old.refl _) (OwnS.nil _ _) (fun y h => h.elim) (fun y h => by cases h) Fin.nil)
    rintro H4 (q : AC) ⟨Fo, ha, k4, fr⟩
    have k4' : Kp H3 H4 := k4.mono fun _ _ h => h
    have kk := k3.trans k4'
    have hrl : (refRows st (ser x [])).length = (ser x []).length := List.length_map ..
    have hsub := ser_sub hseq.1 x [] hxin fun y h => by cases h
    refine LenS.of ha.slr ?_
    rw [hrl]
    refine FA.mk (Ld.oc (o13.kp k4') rfl (LenS.of (hs.kp kk) ?_))
    rw [nodeRows_len, ← hxref] at *
    have canonX : CanonD l (ref st x) → ser x [] = st := by
      rintro ⟨y, hy, e1, e2⟩
      have f := ser_seq y [] hy Seq.nil
      have hst' : st = ser y [] := by rw [hst, e1, bld_rows f]
      have hxy : x = y := ref_inj hxin (by rw [hst']; exact ser_in y []) (by rw [e2, hst'])
      rw [hst', hxy]
    refine CondB.ne (fun h2 => ⟨?_, kk⟩) fun h2 => ?_
    · exact (dFault_two hlen hsc0 fun hcan => by rw [canonX hcan, hstl] at h2; exact h2 rfl).symm
    have hlx : (ser x []).length = st.length := by omega
    unfold fetterlockref6_DiagramFault.l123
    refine LoopT.rule (fun m s0 H6 => ∃ k : Nat, k ≤ l.length ∧ m = l.length - k ∧ s0 = (q, (k : Int), ()) ∧ H6 = H4 ∧ ∀ (j : Nat) (y : DT), j < k → (ser x [])[j]? = some y → ref st y = j) l.length ⟨0, by omega, rfl, rfl, rfl, fun j y h => by omega⟩ ?_
    rintro m s0 H6 back2 ⟨k, hk, rfl, rfl, rfl, hidx⟩ hback2
    simp only [fetterlockref6_DiagramFault.b123]
    refine LenS.of ha.slr ?_
    rw [hrl]
    refine CondB.dec (fun hlt2 => ?_) fun hge2 => ?_
    · obtain ⟨y, hy⟩ : ∃ y, (ser x [])[k]? = some y := ⟨_, List.getElem?_eq_getElem (by omega)⟩
      refine IA.of ha.slr (by omega) (by rw [Int.toNat_natCast]; exact refRow_at hy) fun b o hld => Ld.a1 hld (ref st y) rfl rfl ?_
      refine CondB.ne (fun h3 => ⟨?_, kk⟩) fun h3 => ?_
      · exact (dFault_two hlen hsc0 fun hcan => by
          rw [canonX hcan] at hy
          exact h3 (ref_idx hseq.1 hy)).symm
      · refine hback2 (l.length - (k + 1)) _ _ (by omega) ⟨k + 1, by omega, rfl, ?_, rfl, fun j z hj hz => ?_⟩
        · exact tc rfl (tc ((wrap64 (by omega) (by omega)).trans (by omega)) rfl)
        · by_cases hjk : j = k
          · subst hjk
            rw [hy] at hz
            cases hz
            exact h3
          · exact hidx j z (by omega) hz
    · have hser := ser_all hlx (fun j y hy => hidx j y (by have := (List.getElem?_eq_some_iff.1 hy).1; omega) hy) hsub
      refine ⟨(dFault_zero hlen ⟨x, hxro, ?_, ?_⟩).symm, kk⟩
      · rw [hser, hrows]
      · rw [hser]
end Go.Proofs.Ytanaaabejeeakaa
end
section
/- The reference's operations; the law that Apply and Not are these. -/
namespace Go.Proofs.Ytanaaabejeeakaa
open Go.AI Go.AI.DT

end Go.Proofs.Ytanaaabejeeakaa
end
section
/- The reference's Apply; the law that Apply and Not are what is specified. -/
namespace Go.Proofs.Ytanaaabejeeakaa
open Go.AI Go.AI.DT

end Go.Proofs.Ytanaaabejeeakaa
end
section
/- Lists of lists of whole numbers. -/
namespace Go.Proofs.Ytanaaabejeeakaa
open Go.AI Go.AI.DT

def intRows (l : List Int) : List (List AC) := l.map fun n => [AC.int .i64 n]
theorem intRow_at {l : List Int} {i : Nat} {n : Int} (h : l[i]? = some n) : (intRows l)[i]? = some [AC.int .i64 n] := by
  unfold intRows; rw [List.getElem?_map, h]; rfl
theorem intRows_len (l : List Int) : (intRows l).length = l.length := by unfold intRows; rw [List.length_map]

/-- A list of lists, asx it lies in memory. -/
structure LL (H : AHeap) (s : AC) (Fo Gi : Nat → Prop) (L : List (List Int)) : Prop where
  ex : ∃ ss : List AC, OwnS H s 1 Fo (ss.map fun c => [c]) ∧ ss.length = L.length ∧ ∀ (i : Nat) (c : AC) (l : List Int), ss[i]? = some c → L[i]? = some l → SlR H c 1 (intRows l) ∧ ∀ b o z m cap, c = .sl (some (b, o)) z m cap → Gi b
  sep : ∀ y, Gi y → y < H.size ∧ ¬ Fo y
theorem LL.keep {S Fo Gi : Nat → Prop} {H H' : AHeap} {s : AC} {L : List (List Int)} (h : LL H s Fo Gi L) (k : Keep S H H') (hd : ∀ y, S y → ¬ Fo y ∧ ¬ Gi y) : LL H' s Fo Gi L := by
  obtain ⟨ss, h1, h2, h3⟩ := h.ex
  refine ⟨⟨ss, h1.keep k fun y hy => (hd y hy).1, h2, fun i c l hc hl => ?_⟩, fun y hy => ⟨Nat.lt_of_lt_of_le (h.sep y hy).1 k.size, (h.sep y hy).2⟩⟩
  obtain ⟨g1, g2⟩ := h3 i c l hc hl
  exact ⟨g1.keep k fun b o m cap z e hS => (hd b hS).2 (g2 b o _ _ _ e), g2⟩
theorem LL.kp {Fo Gi : Nat → Prop} {H H' : AHeap} {s : AC} {L : List (List Int)} (h : LL H s Fo Gi L) (k : Kp H H') : LL H' s Fo Gi L := h.keep k fun _ h => h.elim
theorem LL.nil (H : AHeap) : LL H (.sl none 0 0 (some 0)) (fun _ => False) (fun _ => False) [] := ⟨⟨[], OwnS.nil _ _, rfl, fun i c l h => by simp at h⟩, fun _ h => h.elim⟩
theorem LL.lt {Fo Gi : Nat → Prop} {H : AHeap} {s : AC} {L : List (List Int)} (h : LL H s Fo Gi L) : ∀ y, Fo y → y < H.size := by
  obtain ⟨ss, h1, _⟩ := h.ex
  exact h1.lt
theorem LL.len {Fo Gi : Nat → Prop} {H : AHeap} {s : AC} {L : List (List Int)} (h : LL H s Fo Gi L) {k : Int → Prop} (q : k (L.length : Int)) : LenS s k := by
  obtain ⟨ss, h1, h2, _⟩ := h.ex
  refine LenS.of h1.slr ?_
  rw [List.length_map, h2]
  exact q
/-- One list more. -/
theorem LL.app {Fo Gi G : Nat → Prop} {H : AHeap} {s x c : AC} {L : List (List Int)} {l : List Int} {e : Nat} {K : AC → AHeap → Prop} (h : LL H s Fo Gi L) (hx : ∃ p cap, x = .sl (some (p, 0)) 1 1 cap ∧ H.load (p, 0) 1 = some [c])
    (hc : SlR H c 1 (intRows l)) (hG : ∀ b o z m cap, c = .sl (some (b, o)) z m cap → G b) (hGl : ∀ y, G y → y < H.size ∧ ¬ Fo y) (hl : L.length ≤ 65536)
    (q : ∀ s' H', LL H' s' (fun y => Fo y ∨ y = H.size) (fun y => Gi y ∨ G y) (L ++ [l]) → Keep Fo H H' → H'.size = H.size + 1 → K s' H') : App e 1 24 s x H K := by
  obtain ⟨ss, h1, h2, h3⟩ := h.ex
  refine App.own h1 (r := [c]) hx rfl (by rw [List.length_map]; omega) (by rw [List.length_map]; omega) fun s' H' sl' k' hs' => q s' H' ⟨⟨ss ++ [c], ?_, by simp [h2], fun i d m hd hm => ?_⟩, fun y hy => ?_⟩ k' hs'
  · rw [List.map_append]
    exact sl'
  · by_cases hi : i < L.length
    · rw [List.getElem?_append_left (by omega)] at hd hm
      obtain ⟨g1, g2⟩ := h3 i d m hd hm
      exact ⟨g1.keep k' fun b o m cap z e hF => (h.sep b (g2 b o _ _ _ e)).2 hF, fun b o z m cap e => .inl (g2 b o z m cap e)⟩
    · have hi' : i = L.length := by
        have := (List.getElem?_eq_some_iff.1 hm).1
        simp at this; omega
      subst hi'
      rw [List.getElem?_append_right (by omega)] at hd hm
      simp [h2] at hd hm
      subst hd hm
      exact ⟨hc.keep k' fun b o m cap z e hF => (hGl b (hG b o _ _ _ e)).2 hF, fun b o z m cap e => .inr (hG b o z m cap e)⟩
  · have hy' : y < H.size ∧ ¬ Fo y := hy.elim (h.sep y) (hGl y)
    exact ⟨by omega, fun e => e.elim hy'.2 fun e => by omega⟩

theorem sameInts_c {s s' : AC} {l l' : List Int} {H : AHeap} (hs : SlR H s 1 (intRows l)) (hs' : SlR H s' 1 (intRows l')) (hlen : l.length < 4611686018427387904) :
    Fn.fetterlocklaw6_sameInts s s' H fun H' r => H' = H ∧ r = decide (l = l') := by
  refine fetterlocklaw6_sameInts.run ?_
  unfold fetterlocklaw6_sameInts.W
  refine LenS.of hs (LenS.of hs' ?_)
  rw [intRows_len, intRows_len]
  refine CondB.ne (fun hne => ⟨rfl, ?_⟩) fun he => ?_
  · symm; rw [decide_eq_false_iff_not]; rintro rfl; exact hne rfl
  have hl : l.length = l'.length := by omega
  unfold fetterlocklaw6_sameInts.l14
  refine LoopT.rule (fun m s0 H2 => ∃ i : Nat, i ≤ l.length ∧ m = l.length - i ∧ s0 = (s, s', (i : Int), ()) ∧ H2 = H ∧ ∀ j, j < i → l[j]? = l'[j]?) l.length ⟨0, by omega, by omega, rfl, rfl, fun j h => by omega⟩ ?_
  rintro m s0 H2 back ⟨i, hi, rfl, rfl, rfl, hall⟩ hback
  simp only [fetterlocklaw6_sameInts.b14]
  refine LenS.of hs ?_
  rw [intRows_len]
  refine CondB.dec (fun hlt => ?_) fun hge => ?_
  · have hi' : i < l.length := by omega
    obtain ⟨b, hb⟩ : ∃ b, l[i]? = some b := ⟨_, List.getElem?_eq_getElem hi'⟩
    obtain ⟨b', hb'⟩ : ∃ b, l'[i]? = some b := ⟨_, List.getElem?_eq_getElem (by omega)⟩
    refine IA.of hs (by omega) (by rw [Int.toNat_natCast]; exact intRow_at hb) fun b1 o1 hld => Ld.a1 hld b rfl rfl ?_
    refine IA.of hs' (by omega) (by rw [Int.toNat_natCast]; exact intRow_at hb') fun b1 o1 hld => Ld.a1 hld b' rfl rfl ?_
    refine CondB.ne (fun hc => ⟨by trivial, ?_⟩) fun hc => ?_
    · symm
      rw [decide_eq_false_iff_not]
      rintro rfl
      rw [hb] at hb'
      cases hb'
      exact hc rfl
    · refine hback (l.length - (i + 1)) _ _ (by omega) ⟨i + 1, by omega, rfl, ?_, rfl, fun j hj => ?_⟩
      · exact tc rfl (tc rfl (tc ((wrap64 (by omega) (by omega)).trans (by omega)) rfl))
      · by_cases hji : j = i
        · subst hji
          rw [hb, hb', hc]
        · exact hall j (by omega)
  · refine ⟨by trivial, ?_⟩
    symm
    rw [decide_eq_true_iff]
    apply List.ext_getElem?
    intro j
    by_cases hj : j < i
    · exact hall j hj
    · rw [List.getElem?_eq_none (by omega), List.getElem?_eq_none (by omega)]

end Go.Proofs.Ytanaaabejeeakaa
end
section
/- The assignments for which a tree is true, in order. -/
namespace Go.AI
open DT

def asg (n i : Nat) : Nat → Bool := fun w => decide (w < n) && i.testBit (n - 1 - w)
def neg : DT → DT
  | leaf b => leaf (!b)
  | nd v l h => nd v (neg l) (neg h)
end Go.AI
end
section
/- The reference's models. -/
namespace Go.Proofs.Ytanaaabejeeakaa
open Go.AI Go.AI.DT

end Go.Proofs.Ytanaaabejeeakaa
end
section
/- Cloning a list of whole numbers. -/
namespace Go.Proofs.Ytanaaabejeeakaa
open Go.AI Go.AI.DT

end Go.Proofs.Ytanaaabejeeakaa
end
section
/- The bits of an assignment, one after another. -/
namespace Go.AI
open DT

end Go.AI
end
section
/- Models: the walk. -/
namespace Go.Proofs.Ytanaaabejeeakaa
open Go.AI Go.AI.DT

/-- Where the walk keeps what it has. -/
structure MP where
  (ob mb nb vb xb sb cb : Nat)
def MP.loc (p : MP) (y : Nat) : Prop := y = p.ob ∨ y = p.mb ∨ y = p.nb ∨ y = p.vb ∨ y = p.xb ∨ y = p.sb ∨ y = p.cb
structure MS (H : AHeap) (p : MP) (s : AC) (r0 : Int) (n : Nat) (most : Int) (Fo Gi : Nat → Prop) (L : List (List Int)) (cs : List Int) : Prop where
  o1 : ∃ out, Own H p.ob [out] ∧ LL H out Fo Gi L
  o2 : Own H p.mb [.int .i64 most]
  o3 : Own H p.nb [.int .i64 (n : Int)]
  o4 : Own H p.vb [.sl (some (p.cb, 0)) 1 n (some n)]
  o5 : Own H p.xb [s, .int .i64 r0]
  o6 : Own H p.sb [.fn 59 [] [(p.ob, 0), (p.mb, 0), (p.nb, 0), (p.vb, 0), (p.xb, 0), (p.sb, 0)]]
  oc : Own H p.cb (cs.map (AC.int .i64))
  len : cs.length = n
  d : ∀ y, Fo y ∨ Gi y → ¬ p.loc y
  ne1 : p.ob ≠ p.mb ∧ p.ob ≠ p.nb ∧ p.ob ≠ p.vb ∧ p.ob ≠ p.xb ∧ p.ob ≠ p.sb ∧ p.ob ≠ p.cb
  ne2 : p.cb ≠ p.mb ∧ p.cb ≠ p.nb ∧ p.cb ≠ p.vb ∧ p.cb ≠ p.xb ∧ p.cb ≠ p.sb
theorem MS.kp {H H' : AHeap} {p : MP} {s : AC} {r0 : Int} {n : Nat} {most : Int} {Fo Gi : Nat → Prop} {L : List (List Int)} {cs : List Int} (h : MS H p s r0 n most Fo Gi L cs) (k : Kp H H') : MS H' p s r0 n most Fo Gi L cs :=
  ⟨let ⟨o, a, b⟩ := h.o1; ⟨o, a.kp k, b.kp k⟩, h.o2.kp k, h.o3.kp k, h.o4.kp k, h.o5.kp k, h.o6.kp k, h.oc.kp k, h.len, h.d, h.ne1, h.ne2⟩
theorem MS.lt {H : AHeap} {p : MP} {s : AC} {r0 : Int} {n : Nat} {most : Int} {Fo Gi : Nat → Prop} {L : List (List Int)} {cs : List Int} (h : MS H p s r0 n most Fo Gi L cs) : ∀ y, p.loc y → y < H.size := by
  obtain ⟨out, a, _⟩ := h.o1
  rintro y (e | e | e | e | e | e | e)
  · rw [e]; exact a.lt
  · rw [e]; exact h.o2.lt
  · rw [e]; exact h.o3.lt
  · rw [e]; exact h.o4.lt
  · rw [e]; exact h.o5.lt
  · rw [e]; exact h.o6.lt
  · rw [e]; exact h.oc.lt
/-- A value is written. -/
theorem MS.put {H : AHeap} {p : MP} {s : AC} {r0 : Int} {n : Nat} {most : Int} {Fo Gi : Nat → Prop} {L : List (List Int)} {cs : List Int} (h : MS H p s r0 n most Fo Gi L cs) {v : Nat} (hv : v < n) {b : Int} {K : AHeap → Prop}
    (q : ∀ H', MS H' p s r0 n most Fo Gi L (cs.set v b) → Keep (fun y => y = p.cb) H H' → H'.size = H.size → K H') : Sto H (.ptr (some (p.cb, 0 + (v : Int).toNat * 1))) [.int .i64 b] K := by
  have hcl := h.len
  refine Sto.cell h.oc (by simp [hcl]; omega) fun H' oc' k' hs' => q H' ?_ k' hs'
  obtain ⟨out, a, b'⟩ := h.o1
  have hcb : p.loc p.cb := .inr (.inr (.inr (.inr (.inr (.inr rfl)))))
  refine ⟨⟨out, a.keep k' (fun e => h.ne1.2.2.2.2.2 e), b'.keep k' fun y e => ?_⟩, h.o2.keep k' (fun e => h.ne2.1 e.symm), h.o3.keep k' (fun e => h.ne2.2.1 e.symm), h.o4.keep k' (fun e => h.ne2.2.2.1 e.symm), h.o5.keep k' (fun e => h.ne2.2.2.2.1 e.symm), h.o6.keep k' (fun e => h.ne2.2.2.2.2 e.symm), ?_, by rw [List.length_set, hcl], h.d, h.ne1, h.ne2⟩
  · subst e
    exact ⟨fun e => h.d _ (.inl e) hcb, fun e => h.d _ (.inr e) hcb⟩
  · rw [List.map_set]
    simpa using oc'

end Go.Proofs.Ytanaaabejeeakaa
end
section
/- Models: the walk itself. -/
namespace Go.Proofs.Ytanaaabejeeakaa
open Go.AI Go.AI.DT

end Go.Proofs.Ytanaaabejeeakaa
end
section
/- Models; the laws of Count and Models. -/
namespace Go.Proofs.Ytanaaabejeeakaa
open Go.AI Go.AI.DT

end Go.Proofs.Ytanaaabejeeakaa
end
section
/- Calls whose answers are told; a slice of one's own that is turned in place. -/
namespace Go.AI
open Go.Lib

theorem callE_told {P : Program} [BaseC P] {f : FuncId} {args : List AV} {H : AHeap} {r} (hb : BaseC.has P f = true) (h : BaseC.call P f args H = some r) : callE P f args H = some r := by
  refine callE_some.2 ⟨1, ?_⟩
  unfold callA
  rw [if_pos hb, h]
theorem runT_told {P : Program} [BaseC P] {rs : List (Bool × List CT)} {f : FuncId} {args : List AV} {H H' : AHeap} {v : AV} {K : AHeap → Cur (flat rs)} (hb : BaseC.has P f = true) (h : BaseC.call P f args H = some (v, H')) (xs : Tup (flat rs)) (hv : v = joinR (splitP rs (cellsOf (flat rs) xs)))
    (k : app (flat rs) (K H') xs) : RunT P rs f args H K := ⟨v, H', callE_told hb h, xs, hv, k⟩

def iRows (l : List Int) : List (List AC) := l.map fun n => [AC.int .i64 n]
theorem iRows_flat : ∀ l : List Int, (iRows l).flatten = l.map (AC.int .i64)
  | [] => rfl
  | a :: l => by
    have := iRows_flat l
    unfold iRows at this ⊢
    rw [List.map_cons, List.flatten_cons, this]
    rfl
theorem iRows_len (l : List Int) : (iRows l).length = l.length := by unfold iRows; rw [List.length_map]
/-- A slice of one's own is written anew, in place. -/
theorem OwnS.turn {H : AHeap} {s : AC} {F : Nat → Prop} {l l' : List Int} (h : OwnS H s 1 F (iRows l)) (hw : GW H) (hl : l'.length = l.length) :
    s = .sl none 0 0 (some 0) ∧ l = [] ∨ ∃ b cap H', s = .sl (some (b, 0)) 1 l.length cap ∧ H.load (b, 0) l.length = some (l.map (AC.int .i64)) ∧ H.store (b, 0) (l'.map (AC.int .i64)) = some H' ∧ OwnS H' s 1 F (iRows l') ∧ Keep F H H' ∧ H'.size = H.size := by
  rcases h.ex with ⟨h1, h2⟩ | ⟨b, e, g, st, cap, h1, hg, h3, h4, h5, h6⟩
  · refine .inl ⟨h1, ?_⟩
    have := congrArg List.length h2
    rw [iRows_len] at this
    exact List.eq_nil_of_length_eq_zero this
  · rw [iRows_len] at h1
    rw [iRows_flat] at hg
    have hblt := AHeap.get_lt hg
    obtain ⟨H', hH'⟩ : ∃ H', H' = H.stores b e g st 0 ((l.map (AC.int .i64)).map some) ((l'.map (AC.int .i64)).map some) := ⟨_, rfl⟩
    have hst : H.store (b, 0) (l'.map (AC.int .i64)) = some H' := by
      unfold AHeap.store
      simp only [hg]
      rw [if_pos (by simp [hl]), hH']
    have hsz : H'.size = H.size := by rw [hH']; exact AHeap.size_stores _ _ _ _ _ _ _ _
    have hext : ∀ k, H'.ext k = H.ext k := fun k => by rw [hH']; exact AHeap.ext_stores _ _ _ _ _ _ _ _ _
    have hnew : splice ((l.map (AC.int .i64)).map some) 0 ((l'.map (AC.int .i64)).map some) = (l'.map (AC.int .i64)).map some := by
      rw [splice_map _ _ 0 (by simp [hl]), List.take_zero, List.nil_append, List.drop_eq_nil_of_le (by simp [hl]), List.append_nil]
    -- what each block holds behind it
    have hget : ∀ m, H'.get m = if m = b then some (.row e g st false ((l'.map (AC.int .i64)).map some)) else if (H.ext g).2 = true ∧ ¬ (H.ext g).1 ≤ st + 0 then (H.get m).map (blot g (st + 0) (st + 0 + l'.length)) else H.get m := by
      intro m
      rw [hH']
      unfold AHeap.stores
      rw [AHeap.get_set, hnew]
      have hlt' : b < (if (H.ext g).2 = true then H.blotGroup g (st + 0) (st + 0 + ((l'.map (AC.int .i64)).map some).length) else H).size := by
        split
        · rw [AHeap.size_blotGroup]; exact hblt
        · exact hblt
      by_cases hm : m = b
      · rw [if_pos ⟨hm, hlt'⟩, if_pos hm]
      · rw [if_neg (fun k => hm k.1), if_neg hm]
        by_cases hx : (H.ext g).2 = true
        · rw [if_pos hx]
          unfold AHeap.blotGroup
          by_cases hy : (H.ext g).1 ≤ st + 0
          · rw [if_pos hy, if_neg (fun k => k.2 hy)]
          · rw [if_neg hy, if_pos ⟨hx, hy⟩, AHeap.get_blotAll]
            by_cases hml : m < H.size
            · rw [if_pos hml]; simp
            · rw [if_neg hml]
              have : H.get m = none := by unfold AHeap.get; rw [if_neg hml]
              rw [this]; rfl
        · rw [if_neg hx, if_neg (fun k => hx k.1)]
    -- rows keep their groups
    have rowOf : ∀ x e' g' st' ro' cs', H'.get x = some (.row e' g' st' ro' cs') → ∃ e1 st1 ro1 cs1, H.get x = some (.row e1 g' st1 ro1 cs1) := by
      intro x e' g' st' ro' cs' hx
      rw [hget] at hx
      split at hx
      · next hxb => cases hx; subst hxb; exact ⟨_, _, _, _, hg⟩
      split at hx
      · obtain ⟨o, ho, hb⟩ := Option.map_eq_some_iff.1 hx
        cases o with
        | map _ => cases hb
        | loop => cases hb
        | row e1 g1 st1 ro1 cs1 =>
          simp only [blot] at hb
          split at hb
          · cases hb; exact ⟨_, _, _, _, ho⟩
          · cases hb; exact ⟨_, _, _, _, ho⟩
      · exact ⟨_, _, _, _, hx⟩
    have rowTo : ∀ x e' g' st' ro' cs', H.get x = some (.row e' g' st' ro' cs') → ∃ e1 st1 ro1 cs1, H'.get x = some (.row e1 g' st1 ro1 cs1) := by
      intro x e' g' st' ro' cs' hx
      rw [hget]
      split
      · next hxb => subst hxb; rw [hg] at hx; cases hx; exact ⟨_, _, _, _, rfl⟩
      split
      · rw [hx]
        simp only [Option.map_some, blot]
        split
        · exact ⟨_, _, _, _, rfl⟩
        · exact ⟨_, _, _, _, rfl⟩
      · exact ⟨_, _, _, _, hx⟩
    have keep : Keep F H H' := by
      refine ⟨by omega, fun x hx hn => ?_, fun x hx hn => hext x, ⟨fun hw' x e' g' st' ro' cs' hx => ?_, fun hw' x e' g' st' ro' cs' hx => ?_⟩, fun x e' g' st' ro' cs' hx _ _ => rowOf x _ _ _ _ _ hx⟩
      · rw [hget, if_neg (fun k => hn (by rw [k]; exact h5))]
        split
        · cases ho : H.get x with
          | none => rfl
          | some o =>
            cases o with
            | map _ => rfl
            | loop => rfl
            | row e1 g1 st1 ro1 cs1 =>
              simp only [Option.map_some, blot]
              rw [if_neg]
              rintro rfl
              exact hn (h.grp hw _ _ _ _ _ _ _ _ _ _ _ _ _ _ _ h1 hg ho)
        · rfl
      · obtain ⟨_, _, _, _, hx'⟩ := rowOf _ _ _ _ _ _ hx
        exact hw' _ _ _ _ _ _ hx'
      · obtain ⟨_, _, _, _, hx'⟩ := rowTo _ _ _ _ _ _ hx
        exact hw' _ _ _ _ _ _ hx'
    refine .inr ⟨b, cap, H', h1, ?_, hst, ⟨fun r hr => ?_, fun x hx => by have := h.lt x hx; omega, .inr ⟨b, e, g, st, cap, by rw [iRows_len, hl]; exact h1, ?_, ?_, ?_, h5, h6⟩, fun hw' b' o z n cap' e' g' st' ro cs x e2 st2 ro2 cs2 hs hb hx => ?_⟩, keep, hsz⟩
    · rw [load_of hg (by simp), List.drop_zero, List.take_of_length_le (by simp)]
    · unfold iRows at hr
      obtain ⟨n, _, rfl⟩ := List.mem_map.1 hr
      rfl
    · rw [hget, if_pos rfl, iRows_flat]
    · rw [hext, iRows_flat, List.length_map, hl]
      rw [iRows_flat, List.length_map] at h3
      exact h3
    · rw [iRows_len, hl]
      rw [iRows_len] at h4
      exact h4
    · rw [h1] at hs
      cases hs
      rw [hget, if_pos rfl] at hb
      cases hb
      obtain ⟨_, _, _, _, hx'⟩ := rowOf _ _ _ _ _ _ hx
      exact h.grp hw _ _ _ _ _ _ _ _ _ _ _ _ _ _ _ h1 hg hx'
end Go.AI
end
section
/- Lists without repetition, in order. -/
namespace Go.AI
open Go.Lib

theorem asc_eq : ∀ {l m : List Int}, l.Pairwise (· < ·) → m.Pairwise (· < ·) → (∀ x, x ∈ l ↔ x ∈ m) → l = m
  | [], [], _, _, _ => rfl
  | [], b :: m, _, _, h => absurd ((h b).2 (List.mem_cons_self ..)) (List.not_mem_nil)
  | a :: l, [], _, _, h => absurd ((h a).1 (List.mem_cons_self ..)) (List.not_mem_nil)
  | a :: l, b :: m, hl, hm, h => by
    have hl' := List.pairwise_cons.1 hl
    have hm' := List.pairwise_cons.1 hm
    have e : a = b := by
      have h1 := (h a).1 (List.mem_cons_self ..)
      have h2 := (h b).2 (List.mem_cons_self ..)
      rcases List.mem_cons.1 h1 with h1 | h1
      · exact h1
      rcases List.mem_cons.1 h2 with h2 | h2
      · exact h2.symm
      have := hm'.1 a h1
      have := hl'.1 b h2
      omega
    subst e
    rw [asc_eq hl'.2 hm'.2 fun x => ?_]
    constructor
    · intro hx
      rcases List.mem_cons.1 ((h x).1 (List.mem_cons_of_mem _ hx)) with e | e
      · have := hl'.1 x hx; omega
      · exact e
    · intro hx
      rcases List.mem_cons.1 ((h x).2 (List.mem_cons_of_mem _ hx)) with e | e
      · have := hm'.1 x hx; omega
      · exact e

theorem compact_asc {d : Array Int} (hs : ∀ i j, i ≤ j → j < d.size → d[i]! ≤ d[j]!) : ∀ m, m ≤ d.size → (compactUpTo d m).Pairwise (· < ·) ∧ ∀ x, x ∈ compactUpTo d m ↔ ∃ j, j < m ∧ d[j]! = x
  | 0, _ => by
    have e : compactUpTo d 0 = [] := rfl
    rw [e]
    exact ⟨List.Pairwise.nil, fun x => ⟨fun h => (List.not_mem_nil h).elim, fun ⟨j, h, _⟩ => by omega⟩⟩
  | m + 1, hm => by
    obtain ⟨h1, h2⟩ := compact_asc hs m (by omega)
    rw [compactUpTo_succ]
    by_cases hk : keeps d m = true
    · rw [if_pos hk]
      refine ⟨List.pairwise_append.2 ⟨h1, List.pairwise_singleton _ _, fun a ha b hb => ?_⟩, fun x => ?_⟩
      · obtain rfl := List.mem_singleton.1 hb
        obtain ⟨j, hj, rfl⟩ := (h2 a).1 ha
        have e1 := hs j (m - 1) (by omega) (by omega)
        have e2 := hs (m - 1) m (by omega) (by omega)
        have : d[m]! ≠ d[m - 1]! := fun e => by
          rw [keeps_neg (by omega) e] at hk; cases hk
        omega
      · rw [List.mem_append, h2, List.mem_singleton]
        constructor
        · rintro (⟨j, hj, e⟩ | e)
          · exact ⟨j, by omega, e⟩
          · exact ⟨m, by omega, e.symm⟩
        · rintro ⟨j, hj, e⟩
          by_cases hjm : j = m
          · subst hjm; exact .inr e.symm
          · exact .inl ⟨j, by omega, e⟩
    · rw [if_neg hk, List.append_nil]
      have hm0 : 0 < m := by
        rcases Nat.eq_zero_or_pos m with e | e
        · subst e; exact absurd (keeps_lt_one d 0 (by omega)) hk
        · exact e
      have he : d[m]! = d[m - 1]! := Decidable.by_contra fun h => hk (keeps_pos h)
      refine ⟨h1, fun x => ?_⟩
      rw [h2]
      constructor
      · rintro ⟨j, hj, e⟩
        exact ⟨j, by omega, e⟩
      · rintro ⟨j, hj, e⟩
        by_cases hjm : j = m
        · subst hjm; exact ⟨j - 1, by omega, by rw [← he, e]⟩
        · exact ⟨j, by omega, e⟩

/-- A sorted list without its repetitions. -/
theorem compact_sort (l : List Int) : (compact (l.mergeSort fun x y => decide (x ≤ y))).Pairwise (· < ·) ∧ ∀ x, x ∈ compact (l.mergeSort fun x y => decide (x ≤ y)) ↔ x ∈ l := by
  obtain ⟨z, hz⟩ : ∃ z, z = l.mergeSort fun x y => decide (x ≤ y) := ⟨_, rfl⟩
  have hp : z.Pairwise fun x y => decide (x ≤ y) = true := by
    rw [hz]
    refine List.pairwise_mergeSort (fun a b c h1 h2 => ?_) (fun a b => ?_) l
    · simp only [decide_eq_true_eq] at h1 h2 ⊢; omega
    · simp only [Bool.or_eq_true, decide_eq_true_eq]; omega
  have hmem : ∀ x, x ∈ z ↔ x ∈ l := fun x => by rw [hz]; exact List.mem_mergeSort
  rw [← hz]
  have get : ∀ j, j < z.length → z.toArray[j]! = z[j]! := fun j hj => by simp
  have hs : ∀ i j, i ≤ j → j < z.toArray.size → z.toArray[i]! ≤ z.toArray[j]! := by
    intro i j hij hj
    have hj' : j < z.length := by simpa using hj
    rw [get i (by omega), get j hj']
    by_cases e : i = j
    · subst e; omega
    · have := List.pairwise_iff_getElem.1 hp i j (by omega) hj' (by omega)
      simp only [decide_eq_true_eq] at this
      rw [getElem!_pos z i (by omega), getElem!_pos z j hj']
      exact this
  obtain ⟨h1, h2⟩ := compact_asc hs z.length (by simp)
  refine ⟨h1, fun x => ?_⟩
  rw [← hmem x]
  refine (h2 x).trans ⟨?_, fun h => ?_⟩
  · rintro ⟨j, hj, rfl⟩
    rw [get j hj, getElem!_pos z j hj]
    exact List.getElem_mem _
  · obtain ⟨j, hj, e⟩ := List.getElem_of_mem h
    exact ⟨j, hj, by rw [get j hj, getElem!_pos z j hj, e]⟩
end Go.AI
end
section
/- Support; the law of CheckDiagram and Support. -/
namespace Go.Proofs.Ytanaaabejeeakaa
open Go.AI Go.AI.DT Go.Lib

def sortI (l : List Int) : List Int := l.mergeSort fun x y => decide (x ≤ y)
theorem Sort_o {s : AC} {F : Nat → Prop} {l : List Int} {H : AHeap} (h : OwnS H s 1 F (iRows l)) (hw : GW H) (hl : l.length < 4611686018427387904) :
    Fn.slices_Sort_int_int s H fun H' => OwnS H' s 1 F (iRows (sortI l)) ∧ Keep F H H' := by
  unfold Fn.slices_Sort_int_int
  rcases h.turn (l' := sortI l) hw (List.length_mergeSort _) with ⟨rfl, rfl⟩ | ⟨b, cap, H', rfl, h1, h2, h3, h4, _⟩
  · exact runT_told (v := .tup []) (H' := H) rfl rfl () rfl ⟨by simpa [sortI] using h, Keep.refl _ _⟩
  · by_cases h0 : l.length = 0
    · have hl0 := List.eq_nil_of_length_eq_zero h0
      subst hl0
      exact runT_told (v := .tup []) (H' := H) rfl rfl () rfl ⟨by simpa [sortI] using h, Keep.refl _ _⟩
    · refine runT_told (v := .tup []) (H' := H') rfl ?_ () rfl ⟨h3, h4⟩
      show sortB H [.one (.sl (some (b, 0)) 1 l.length cap)] = _
      simp only [sortB, if_neg h0, if_neg (show ¬ l.length ≥ 4611686018427387904 by omega), h1, Option.bind_some, intsOf_map]
      show (H.store (b, 0) ((sortI l).map (AC.int .i64))).map _ = _
      rw [h2]
      rfl
theorem slr_take {H : AHeap} {b n m : Nat} {cap : Option Nat} {rows : List (List AC)} (h : SlR H (.sl (some (b, 0)) 1 n cap) 1 rows) (hm : m ≤ n) : SlR H (.sl (some (b, 0)) 1 m cap) 1 (rows.take m) := by
  obtain ⟨a, z, cap', e, hr⟩ := h.ex
  cases e
  refine ⟨_, 1, cap, by rw [List.length_take, Nat.min_eq_left hm], fun i r hi => ?_⟩
  rw [List.getElem?_take] at hi
  split at hi
  · obtain ⟨_, b', o', e, hl⟩ := hr i r hi
    exact ⟨rfl, b', o', e, hl⟩
  · cases hi
theorem Compact_o {s : AC} {F : Nat → Prop} {l : List Int} {H : AHeap} (h : OwnS H s 1 F (iRows l)) (hw : GW H) (hl : l.length < 4611686018427387904) :
    Fn.slices_Compact_int_int s H fun H' q => SlR H' q 1 (iRows (compact l)) ∧ (∀ b o z m cap, q = .sl (some (b, o)) z m cap → F b) ∧ Keep F H H' := by
  have hcl := compact_length_le l
  unfold Fn.slices_Compact_int_int
  rcases h.turn (l' := compact l ++ List.replicate (l.length - (compact l).length) 0) hw (by rw [List.length_append, List.length_replicate]; omega) with ⟨rfl, rfl⟩ | ⟨b, cap, H', rfl, h1, h2, h3, h4, _⟩
  · exact runT_told (v := .one (.sl none 0 0 (some 0))) (H' := H) rfl rfl (AC.sl none 0 0 (some 0), ()) rfl ⟨h.slr, fun b o z m cap e => (by cases e), Keep.refl _ _⟩
  · have hF : F b := by
      rcases h.ex with ⟨e, _⟩ | ⟨b', _, _, _, _, e, _, _, _, h5, _⟩
      · cases e
      · have e2 : b = b' := congrArg (fun c => match c with | AC.sl (some p) _ _ _ => p.1 | _ => 0) e
        rw [e2]; exact h5
    by_cases h0 : l.length = 0
    · have hl0 := List.eq_nil_of_length_eq_zero h0
      subst hl0
      exact runT_told (v := .one (.sl (some (b, 0)) 1 0 cap)) (H' := H) rfl rfl (AC.sl (some (b, 0)) 1 0 cap, ()) rfl ⟨h.slr, fun b' o z m cap' e => (by cases e; exact hF), Keep.refl _ _⟩
    · refine runT_told (v := .one (.sl (some (b, 0)) 1 (compact l).length cap)) (H' := H') rfl ?_ (AC.sl (some (b, 0)) 1 (compact l).length cap, ()) rfl ⟨?_, fun b' o z m cap' e => (by cases e; exact hF), h4⟩
      · show compactB H [.one (.sl (some (b, 0)) 1 l.length cap)] = _
        simp only [compactB, if_neg h0, if_neg (show ¬ l.length ≥ 4611686018427387904 by omega), h1, Option.bind_some, intsOf_map, h2, Option.map_some]
      · have := slr_take h3.slr hcl
        have e : (iRows (compact l ++ List.replicate (l.length - (compact l).length) 0)).take (compact l).length = iRows (compact l) := by
          unfold iRows
          rw [List.map_append, List.take_append_of_le_length (by rw [List.length_map]; exact Nat.le_refl _), List.take_of_length_le (by rw [List.length_map]; exact Nat.le_refl _)]
        rwa [e] at this

/-- The variables of rows. -/
def varsOf (l : List NRow) : List Int := l.map (·.1)
def supOf (l : List NRow) : List Int := compact (sortI (varsOf l))

theorem support_c {s : AC} {l : List NRow} {r : Int} {H : AHeap} (hs : SlR H s 3 (nodeRows l)) (hw : GW H) (hl : l.length ≤ 2000) :
    Fn.solve_support s r H fun H' q => SlR H' q 1 (iRows (supOf l)) ∧ Kp H H' := by
  refine solve_support.run ?_
  unfold solve_support.W
  refine New.own fun b1 H1 hb1 hs1 o1 k1 => FA.mk (Ld.oc o1 rfl (LenS.of (hs.kp k1) ?_))
  rw [nodeRows_len]
  unfold solve_support.l8
  refine LoopT.rule (fun m s0 H2 => ∃ (i : Nat) (out : AC) (F : Nat → Prop), i ≤ l.length ∧ m = l.length - i ∧ s0 = (out, s, (l.length : Int), (i : Int), ()) ∧ Kp H H2 ∧ OwnS H2 out 1 F (iRows ((varsOf l).take i)) ∧ ∀ y, F y → H.size ≤ y) l.length
    ⟨0, _, fun _ => False, by omega, by omega, rfl, k1, by simpa [iRows] using OwnS.nil H1 1, fun y h => h.elim⟩ ?_
  rintro m s0 H2 back ⟨i, out, F, hi, rfl, rfl, k2, ho, hF⟩ hback
  simp only [solve_support.b8]
  have hvl : (varsOf l).length = l.length := by unfold varsOf; rw [List.length_map]
  refine CondB.dec (fun hlt => ?_) fun hge => ?_
  · have hi' : i < l.length := by omega
    obtain ⟨p, hp⟩ : ∃ b, l[i]? = some b := ⟨_, List.getElem?_eq_getElem hi'⟩
    refine IA.of (hs.kp k2) (by omega) (by rw [Int.toNat_natCast]; exact nodeRow_at hp) fun b o hld => Ld.a3 hld p.1 p.2.1 p.2.2 rfl rfl ?_
    refine NewSto.own rfl fun b3 H3 hb3 hs3 o3 k3 => FA.mk (Ld.oi o3 rfl (NewS.own fun b4 H4 hb4 hs4 o4 k4 => ?_))
    have hlen : (iRows ((varsOf l).take i)).length = i := by rw [iRows_len, List.length_take, hvl]; omega
    refine App.own ((ho.kp k3).kp k4) (r := [AC.int .i64 p.1]) ⟨b4, _, rfl, o4.all⟩ rfl (by rw [hlen]; omega) (by rw [hlen]; omega) fun out' H5 ho5 k5 hs5 => ?_
    have k24 := (k2.trans k3).trans k4
    have z4 := k24.size
    refine hback (l.length - (i + 1)) _ _ (by omega) ⟨i + 1, out', fun y => F y ∨ y = H4.size, by omega, rfl, ?_, k24.fresh k5 hF, ?_, fun y h => h.elim (hF y) fun e => by omega⟩
    · exact tc rfl (tc rfl (tc rfl (tc ((wrap64 (by omega) (by omega)).trans (by omega)) rfl)))
    · have e : iRows ((varsOf l).take (i + 1)) = iRows ((varsOf l).take i) ++ [[AC.int .i64 p.1]] := by
        unfold varsOf iRows
        rw [List.take_add_one, List.map_append, List.getElem?_map, hp]
        rfl
      rw [e]; exact ho5
  · have hil : i = l.length := by omega
    subst hil
    rw [List.take_of_length_le (by omega)] at ho
    refine RunT.imp ?_ (Sort_o ho (k2.gw.1 hw) (by omega))
    rintro H3 ⟨ho3, k3⟩
    refine RunT.imp ?_ (Compact_o ho3 (k3.gw.1 (k2.gw.1 hw)) (by unfold sortI; rw [List.length_mergeSort]; omega))
    rintro H4 (q : AC) ⟨hq, _, k4⟩
    exact ⟨hq, (k2.fresh k3 hF).fresh k4 hF⟩

def supTo (l : List NRow) : Nat → List Int
  | 0 => []
  | v + 1 => supTo l v ++ if l.any (fun p => p.1 == (v : Int)) then [(v : Int)] else []
theorem supTo_mem (l : List NRow) : ∀ (v : Nat) (x : Int), x ∈ supTo l v ↔ (0 ≤ x ∧ x < v) ∧ ∃ p ∈ l, p.1 = x
  | 0, x => by simp only [supTo, List.not_mem_nil, false_iff]; rintro ⟨h, _⟩; omega
  | v + 1, x => by
    have ih := supTo_mem l v x
    have ha : l.any (fun p => p.1 == (v : Int)) = true ↔ ∃ p ∈ l, p.1 = (v : Int) := by simp
    simp only [supTo, List.mem_append, ih]
    constructor
    · rintro (⟨h, h2⟩ | h)
      · exact ⟨by omega, h2⟩
      · split at h
        · next hx => obtain rfl := List.mem_singleton.1 h; exact ⟨by omega, ha.1 hx⟩
        · cases h
    · rintro ⟨h, h2⟩
      by_cases hv : x = v
      · subst hv
        right
        rw [if_pos (ha.2 h2)]
        exact List.mem_singleton.2 rfl
      · exact .inl ⟨by omega, h2⟩
theorem supTo_asc (l : List NRow) : ∀ v : Nat, (supTo l v).Pairwise (· < ·)
  | 0 => List.Pairwise.nil
  | v + 1 => by
    simp only [supTo]
    refine List.pairwise_append.2 ⟨supTo_asc l v, ?_, fun a ha b hb => ?_⟩
    · split
      · exact List.pairwise_singleton _ _
      · exact List.Pairwise.nil
    · have := ((supTo_mem l v a).1 ha).1
      split at hb
      · obtain rfl := List.mem_singleton.1 hb; omega
      · cases hb
theorem supTo_len (l : List NRow) : ∀ v : Nat, (supTo l v).length ≤ v
  | 0 => by simp [supTo]
  | v + 1 => by
    have := supTo_len l v
    simp only [supTo, List.length_append]
    split <;> simp <;> omega
theorem supOf_eq {l : List NRow} (h : ∀ p ∈ l, 0 ≤ p.1 ∧ p.1 < 16) : supOf l = supTo l 16 := by
  obtain ⟨h1, h2⟩ := compact_sort (varsOf l)
  refine asc_eq h1 (supTo_asc l 16) fun x => ?_
  refine (h2 x).trans ?_
  rw [supTo_mem]
  unfold varsOf
  rw [List.mem_map]
  constructor
  · rintro ⟨p, hp, rfl⟩
    have := h p hp
    exact ⟨by omega, p, hp, rfl⟩
  · rintro ⟨_, p, hp, e⟩
    exact ⟨p, hp, e⟩

theorem Supports_c {s : AC} {l : List NRow} {r : Int} {H : AHeap} (hs : SlR H s 3 (nodeRows l)) (hl : l.length ≤ 2000) :
    Fn.fetterlockref6_Supports s r H fun H' q => SlR H' q 1 (iRows (supTo l 16)) ∧ Kp H H' := by
  refine fetterlockref6_Supports.run ?_
  unfold fetterlockref6_Supports.W
  refine New.own fun b1 H1 hb1 hs1 o1 k1 => ?_
  unfold fetterlockref6_Supports.l8
  refine LoopT.rule (fun m s0 H2 => ∃ (v : Nat) (out : AC) (F : Nat → Prop), v ≤ 16 ∧ m = 16 - v ∧ s0 = (.ptr (some (b1, 0)), out, (v : Int), ()) ∧ Kp H1 H2 ∧ OwnS H2 out 1 F (iRows (supTo l v)) ∧ ∀ y, F y → H1.size ≤ y) 16
    ⟨0, _, fun _ => False, by omega, by omega, rfl, Kp.refl _, by simpa [iRows, supTo] using OwnS.nil H1 1, fun y h => h.elim⟩ ?_
  rintro m s0 H2 back ⟨v, out, F, hv, rfl, rfl, k2, ho, hF⟩ hback
  simp only [fetterlockref6_Supports.b8]
  refine CondB.dec (fun hlt => ?_) fun hge => ?_
  · have hv' : v < 16 := by omega
    unfold fetterlockref6_Supports.l20
    refine LoopT.rule (fun m s0 H3 => ∃ i : Nat, i ≤ l.length ∧ m = l.length - i ∧ s0 = (.ptr (some (b1, 0)), out, (v : Int), (i : Int), ()) ∧ H3 = H2 ∧ ∀ j p, j < i → l[j]? = some p → p.1 ≠ v) l.length ⟨0, by omega, by omega, rfl, rfl, fun j p h => by omega⟩ ?_
    rintro m s0 H3 back2 ⟨i, hi, rfl, rfl, rfl, hall⟩ hback2
    simp only [fetterlockref6_Supports.b20]
    refine FA.mk (Ld.oc (o1.kp k2) rfl (LenS.of ((hs.kp k1).kp k2) ?_))
    rw [nodeRows_len]
    refine CondB.dec (fun hlt2 => ?_) fun hge2 => ?_
    · have hi' : i < l.length := by omega
      obtain ⟨p, hp⟩ : ∃ b, l[i]? = some b := ⟨_, List.getElem?_eq_getElem hi'⟩
      refine FA.mk (Ld.oc (o1.kp k2) rfl (IA.of ((hs.kp k1).kp k2) (by omega) (by rw [Int.toNat_natCast]; exact nodeRow_at hp) fun b o hld => FA.mk (Ld.ei hld rfl ?_)))
      refine CondB.eq (fun he => ?_) fun he => ?_
      · refine NewS.own fun b4 H4 hb4 hs4 o4 k4 => ?_
        have hlen := supTo_len l v
        refine App.own (ho.kp k4) (r := [AC.int .i64 (v : Int)]) ⟨b4, _, rfl, o4.all⟩ rfl (by rw [iRows_len]; omega) (by rw [iRows_len]; omega) fun out' H5 ho5 k5 hs5 => ?_
        have k24 := k2.trans k4
        have z4 := k24.size
        refine hback (16 - (v + 1)) _ _ (by omega) ⟨v + 1, out', fun y => F y ∨ y = H4.size, by omega, rfl, ?_, k24.fresh k5 hF, ?_, fun y h => h.elim (hF y) fun e => by omega⟩
        · exact tc rfl (tc rfl (tc ((wrap64 (by omega) (by omega)).trans (by omega)) rfl))
        · have ha : l.any (fun p => p.1 == (v : Int)) = true := by
            rw [List.any_eq_true]
            exact ⟨p, List.mem_of_getElem? hp, by simpa using he⟩
          have e : iRows (supTo l (v + 1)) = iRows (supTo l v) ++ [[AC.int .i64 (v : Int)]] := by
            simp only [supTo]
            rw [if_pos ha]
            unfold iRows
            rw [List.map_append]
            rfl
          rw [e]; exact ho5
      · refine hback2 (l.length - (i + 1)) _ _ (by omega) ⟨i + 1, by omega, rfl, ?_, rfl, fun j q hj hq => ?_⟩
        · exact tc rfl (tc rfl (tc rfl (tc ((wrap64 (by omega) (by omega)).trans (by omega)) rfl)))
        · by_cases hji : j = i
          · subst hji
            rw [hp] at hq
            cases hq
            exact he
          · exact hall j q (by omega) hq
    · have ha : ¬ l.any (fun p => p.1 == (v : Int)) = true := by
        rw [List.any_eq_true]
        rintro ⟨p, hp, he⟩
        obtain ⟨j, hj, e⟩ := List.getElem_of_mem hp
        exact hall j p (by omega) (by rw [List.getElem?_eq_getElem hj, e]) (by simpa using he)
      refine hback (16 - (v + 1)) _ _ (by omega) ⟨v + 1, out, F, by omega, rfl, ?_, k2, ?_, hF⟩
      · exact tc rfl (tc rfl (tc ((wrap64 (by omega) (by omega)).trans (by omega)) rfl))
      · simp only [supTo]
        rw [if_neg ha, List.append_nil]
        exact ho
  · have : v = 16 := by omega
    subst this
    exact ⟨ho.slr, k1.trans k2⟩

theorem Support_c {s : AC} {l : List NRow} {r : Int} {H : AHeap} (hs : SlR H s 3 (nodeRows l)) (hw : GW H) :
    Fn.solve_Support s r H fun H' q e => Kp H H' ∧ e = dFault l r ∧ (e ≠ 0 → q = .sl none 0 0 (some 0)) ∧ (e = 0 → SlR H' q 1 (iRows (supOf l))) := by
  refine solve_Support.run ?_
  unfold solve_Support.W
  refine New.own fun b1 H1 hb1 hs1 o1 k1 => Ld.o2 o1 s r rfl (RunT.imp ?_ (CheckDiagram_c (hs.kp k1)))
  rintro H2 (q : Int) ⟨rfl, k2⟩
  have kk2 := k1.trans k2
  refine CondB.ne (fun hne => ⟨kk2, rfl, fun _ => rfl, fun h => absurd h hne⟩) fun h0 => ?_
  refine Ld.o2 (o1.kp k2) s r rfl (RunT.imp ?_ (support_c (hs.kp kk2) (kk2.gw.1 hw) (dFault_len h0).1))
  rintro H3 (q : AC) ⟨hq, k3⟩
  exact ⟨kk2.trans k3, h0.symm, fun h => absurd rfl h, fun _ => hq⟩

theorem law6_c {s : AC} {l : List NRow} {r : Int} {H : AHeap} (hs : SlR H s 3 (nodeRows l)) (hw : GW H) :
    Fn.fetterlocklaw6_BoolCheckMatchesSpec s r H fun H' q => q = true ∧ Kp H H' := by
  refine fetterlocklaw6_BoolCheckMatchesSpec.run ?_
  unfold fetterlocklaw6_BoolCheckMatchesSpec.W
  refine New.own fun b1 H1 hb1 hs1 o1 k1 => Ld.o2 o1 s r rfl (RunT.imp ?_ (DiagramFault_c (hs.kp k1)))
  rintro H2 (bad : Int) ⟨rfl, k2⟩
  have kk2 := k1.trans k2
  refine Ld.o2 (o1.kp k2) s r rfl (RunT.imp ?_ (Support_c (hs.kp kk2) (kk2.gw.1 hw)))
  rintro H3 (q : AC) (e : Int) ⟨k3, he, hq1, hq2⟩
  have kk3 := kk2.trans k3
  have o13 := (o1.kp k2).kp k3
  refine CondB.ne (fun hne => ?_) fun h0 => ?_
  · refine Ld.o2 o13 s r rfl (RunT.imp ?_ (CheckDiagram_c (hs.kp kk3)))
    rintro H4 (c : Int) ⟨rfl, k4⟩
    have e1 := hq1 (by omega)
    subst e1
    refine CondB.pos (by simp) (CondB.pos (by simp [he]) (LenS.mk (CondB.pos rfl (RunT.imp ?_ built_c))))
    rintro H5 q ⟨rfl, k5⟩
    exact ⟨rfl, (kk3.trans k4).trans k5⟩
  · obtain ⟨hlen, hcan⟩ := dFault_len h0
    refine Ld.o2 o13 s r rfl (RunT.imp ?_ (CheckDiagram_c (hs.kp kk3)))
    rintro H4 (c : Int) ⟨rfl, k4⟩
    have kk4 := kk3.trans k4
    refine CondB.pos (by simp [h0]) (CondB.pos (by simp [he, h0]) (Ld.o2 (o13.kp k4) s r rfl (RunT.imp ?_ (Supports_c (hs.kp kk4) hlen))))
    rintro H5 (q2 : AC) ⟨hq2', k5⟩
    have hsup : supOf l = supTo l 16 := supOf_eq fun p hp => by
      obtain ⟨i, hi, e⟩ := List.getElem_of_mem hp
      have := (hcan.of.1 i p (by rw [List.getElem?_eq_getElem hi, e])).1
      exact ⟨this.1, this.2.1⟩
    have hs1 := ((hq2 (by rw [he, h0])).kp k4).kp k5
    rw [hsup] at hs1
    have hl16 := supTo_len l 16
    obtain ⟨S, hS⟩ : ∃ S, S = supTo l 16 := ⟨_, rfl⟩
    rw [← hS] at hs1 hq2' hl16
    refine RunT.imp ?_ (sameInts_c hs1 hq2' (by omega))
    rintro H6 (b : Bool) ⟨e6, rfl⟩
    obtain rfl : H5 = H6 := e6.symm
    refine CondB.pos (by simp) (RunT.imp ?_ built_c)
    rintro H7 q ⟨rfl, k7⟩
    exact ⟨rfl, (kk4.trans k5).trans k7⟩
end Go.Proofs.Ytanaaabejeeakaa
end
