/- Joined by a program: what the proof of the law leans on, part 6. -/
import Derived.Test.YtanaaabejeeakaaA5
set_option linter.unusedVariables false
set_option linter.unusedSimpArgs false
section
/- Models; the laws of Count and Models. -/
namespace Go.Proofs.Ytanaaabejeeakaa
open Go.AI Go.AI.DT

/-- What is known where a number of variables is taken. -/
theorem vTree {l : List NRow} {r n : Int} (h : vFault l r n = 0) : ∃ (x : DT) (k : Nat), n = (k : Int) ∧ k ≤ 16 ∧ x.RO ∧ (ser x []).length ≤ 2000 ∧ l = rowsOf x ∧ r = ref (ser x []) x ∧ VarsLt k x ∧ ∀ ρ, dVal l r ρ = x.eval ρ := by
  unfold vFault at h
  split at h
  · next h1 => exact absurd h h1
  next h1 =>
  have h0 : dFault l r = 0 := by simpa using h1
  split at h
  · cases h
  next h2 =>
  obtain ⟨x, hx, hl, rfl, rfl, hv⟩ := dTree h0
  refine ⟨x, n.toNat, by omega, by omega, hx, hl, rfl, rfl, ?_, hv⟩
  have hseq := ser_seq x [] hx Seq.nil
  refine varsLt_of hseq.1 (fun v a b hm => ?_) x.sz x (Nat.le_refl _) (ser_in x [])
  have : ¬ n ≤ ((row (ser x []) (nd v a b)).1 : Int) := fun e => h2 (.inr (.inr ⟨_, List.mem_map_of_mem hm, e⟩))
  simp only [row] at this
  omega

theorem Count_e {s : AC} {l : List NRow} {r n : Int} {H : AHeap} (hs : SlR H s 3 (nodeRows l)) :
    Fn.solve_Count s r n H fun H' q e => Kp H H' ∧ e = vFault l r n ∧ (e ≠ 0 → q = 0) ∧ (e = 0 → q = (cnt n.toNat 0 (atR (bld l) r) : Int)) := by
  by_cases h0 : vFault l r n = 0
  · obtain ⟨x, k, rfl, hk, hx, hl, rfl, rfl, hvl, hv⟩ := vTree h0
    refine RunT.imp ?_ (Count_c (n := k) hx hs hl hk hvl)
    rintro H' (q : Int) (e : Int) ⟨rfl, rfl, kk⟩
    have : atR (bld (rowsOf x)) (ref (ser x []) x) = x := by
      unfold vFault at h0
      split at h0
      · next h1 => exact absurd h0 h1
      next h1 =>
      have hd : dFault (rowsOf x) (ref (ser x []) x) = 0 := by simpa using h1
      obtain ⟨_, h2⟩ := dFault_len hd
      exact canon' h2.of.2.2.2.1 hx hv
    rw [this, Int.toNat_natCast]
    exact ⟨kk, h0.symm, fun h => absurd rfl h, fun _ => rfl⟩
  · refine solve_Count.run ?_
    unfold solve_Count.W
    refine New.own fun b1 H1 hb1 hs1 o1 k1 => New.own fun b3 H3 hb3 hs3 o3 k3 => Ld.o2 (o1.kp k3) s r rfl (Ld.oi o3 rfl ?_)
    have kk := k1.trans k3
    refine RunT.imp ?_ (varsFault_c (hs.kp kk))
    rintro H4 q ⟨rfl, k4⟩
    exact CondB.pos (by simpa using h0) ⟨kk.trans k4, rfl, fun _ => rfl, fun h => absurd h h0⟩

theorem Models_e {s : AC} {l : List NRow} {r n most : Int} {H : AHeap} (hs : SlR H s 3 (nodeRows l)) :
    Fn.solve_Models s r n most H fun H' q e => Kp H H' ∧ ((vFault l r n ≠ 0 ∧ e = vFault l r n ∧ q = .sl none 0 0 (some 0)) ∨ (vFault l r n = 0 ∧ (most < 0 ∨ 2000 < most) ∧ e = 1 ∧ q = .sl none 0 0 (some 0)) ∨
      (vFault l r n = 0 ∧ 0 ≤ most ∧ most ≤ 2000 ∧ e = 0 ∧ ∃ Fo Gi, LL H' q Fo Gi ((mR n.toNat (atR (bld l) r).eval 0 (2 ^ n.toNat)).take most.toNat))) := by
  refine solve_Models.run ?_
  unfold solve_Models.W
  refine New.own fun b1 H1 hb1 hs1 o1 k1 => New.own fun b3 H3 hb3 hs3 o3 k3 => New.own fun b5 H5 hb5 hs5 o5 k5 => Ld.o2 ((o1.kp k3).kp k5) s r rfl (Ld.oi (o3.kp k5) rfl ?_)
  have kk := (k1.trans k3).trans k5
  refine RunT.imp ?_ (varsFault_c (hs.kp kk))
  rintro H6 (q : Int) ⟨rfl, k6⟩
  have kk6 := kk.trans k6
  refine CondB.ne (fun hne => ⟨kk6, .inl ⟨hne, rfl, rfl⟩⟩) fun h0 => ?_
  have o16 := ((o1.kp k3).kp k5).kp k6
  have o36 := (o3.kp k5).kp k6
  have o56 := o5.kp k6
  unfold solve_Models.p15
  refine Ld.oi o56 rfl (CondB.dec (fun h1 => CondB.pos rfl ⟨kk6, .inr (.inl ⟨h0, .inl h1, rfl, rfl⟩)⟩) fun h1 => Ld.oi o56 rfl (CondB.dec (fun h2 => ⟨kk6, .inr (.inl ⟨h0, .inr h2, rfl, rfl⟩)⟩) fun h2 => ?_))
  obtain ⟨x, k, rfl, hk, hx, hl, rfl, rfl, hvl, hv⟩ := vTree h0
  have hat : atR (bld (rowsOf x)) (ref (ser x []) x) = x := by
    unfold vFault at h0
    split at h0
    · next h1 => exact absurd h0 h1
    next h1 =>
    have hd : dFault (rowsOf x) (ref (ser x []) x) = 0 := by simpa using h1
    obtain ⟨_, h2⟩ := dFault_len hd
    exact canon' h2.of.2.2.2.1 hx hv
  rw [hat, Int.toNat_natCast]
  have hfin : Fin (ser x []) := (ser_seq x [] hx Seq.nil).1
  refine New.own fun b7 H7 hb7 hs7 o7 k7 => Ld.oi (o36.kp k7) rfl (MkS.own (n := k) (by omega) (by omega) fun b8 H8 hb8 hs8 o8 k8 => NewSto.own rfl fun b9 H9 hb9 hs9 o9 k9 => New.own fun b10 H10 hb10 hs10 o10 k10 => Fnc.mk rfl rfl ?_)
  refine Sto.own o10 (Nat.le_refl 1) fun H11 o11 k11 hs11 => Ld.oc o11 rfl ?_
  have z6 := kk6.size
  have k7_10 := ((k7.trans k8).trans k9).trans k10
  have e1 := o16.lt
  have e3 := o36.lt
  have e5 := o56.lt
  have z1 := k1.size
  have z3 := k3.size
  have z5 := k5.size
  have keep10 : ∀ {b : Nat} {cs : List AC}, Own H10 b cs → b ≠ b10 → Own H11 b cs := fun h hne => h.keep k11 hne
  have kk11 : Kp H H11 := (kk6.trans k7_10).fresh k11 fun y e => by have e' : y = b10 := e; omega
  have ms : MS H11 ⟨b7, b5, b3, b9, b1, b10, b8⟩ s (ref (ser x []) x) k most (fun _ => False) (fun _ => False) [] (List.replicate k 0) := by
    refine ⟨⟨_, keep10 (((o7.kp k8).kp k9).kp k10) (by show b7 ≠ b10; omega), LL.nil _⟩, keep10 (o56.kp k7_10) (by show b5 ≠ b10; omega), keep10 (o36.kp k7_10) (by show b3 ≠ b10; omega), keep10 (o9.kp k10) (by show b9 ≠ b10; omega), keep10 (o16.kp k7_10) (by show b1 ≠ b10; omega), o11, ?_, by rw [List.length_replicate], fun y h => h.elim False.elim False.elim, ?_, ?_⟩
    · rw [List.map_replicate]
      exact keep10 ((o8.kp k9).kp k10) (by show b8 ≠ b10; omega)
    · refine ⟨?_, ?_, ?_, ?_, ?_, ?_⟩ <;> dsimp only <;> omega
    · refine ⟨?_, ?_, ?_, ?_, ?_⟩ <;> dsimp only <;> omega
  refine FA.mk (Ld.oi (keep10 (o16.kp k7_10) (by omega)) rfl ?_)
  refine CVT.imp ?_ (CVT.mk lt59 (walk_m (H0 := H) (p := ⟨b7, b5, b3, b9, b1, b10, b8⟩) hk hs hfin (by omega) (by omega) (fun y hy => ?_) k 0 0 x (by omega) (by omega) (ser_in x []) hx hvl (by omega) ms (Kp.old kk11) (fun y h => h.elim) (by simp; omega) (by simp)))
  · rintro H12 ⟨Fo, Gi, cs, ms12, _, k12, fr⟩
    obtain ⟨out, oo, ll⟩ := ms12.o1
    refine Ld.oc oo rfl ⟨kk11.fresh k12 fun y e => ?_, .inr (.inr ⟨h0, by omega, by omega, rfl, Fo, Gi, ?_⟩)⟩
    · rcases e with e | e | e
      · have e' : y = b7 := e; omega
      · have e' : y = b8 := e; omega
      · exact e.elim
    · simpa using ll
  · have z7 := k7.size
    rcases hy with e | e | e | e | e | e | e
    · have e' : y = b7 := e; omega
    · have e' : y = b5 := e; omega
    · have e' : y = b3 := e; omega
    · have e' : y = b9 := e; omega
    · have e' : y = b1 := e; omega
    · have e' : y = b10 := e; omega
    · have e' : y = b8 := e; omega

theorem shl_pow {k : Nat} (hk : k ≤ 16) : shl .i64 1 (k : Int) = ((2 ^ k : Nat) : Int) := by
  have hp16 : 2 ^ k ≤ 65536 := pow2_lt hk
  have := shl_nat (x := 1) (v := k) (by omega) (by rw [Nat.shiftLeft_eq, Nat.one_mul]; omega)
  rw [Nat.shiftLeft_eq, Nat.one_mul] at this
  exact this

theorem law5_c {s : AC} {l : List NRow} {r n : Int} {H : AHeap} (hs : SlR H s 3 (nodeRows l)) :
    Fn.fetterlocklaw6_BoolCountsAddUp s r n H fun H' q => q = true ∧ Kp H H' := by
  refine fetterlocklaw6_BoolCountsAddUp.run ?_
  unfold fetterlocklaw6_BoolCountsAddUp.W
  refine New.own fun b1 H1 hb1 hs1 o1 k1 => Ld.o2 o1 s r rfl (RunT.imp ?_ (Count_e (hs.kp k1)))
  rintro H2 (cn : Int) (e : Int) ⟨k2, he, hc1, hc2⟩
  have kk2 := k1.trans k2
  refine Ld.o2 (o1.kp k2) s r rfl (RunT.imp ?_ (Not_c (hs.kp kk2)))
  rintro H3 (ns : AC) (root : Int) (ne : Int) ⟨hres, k3⟩
  have kk3 := kk2.trans k3
  refine NewSto.own rfl fun b4 H4 hb4 hs4 o4 k4 => ?_
  have kk4 := kk3.trans k4
  have out : ∀ bb, bb = true → fetterlocklaw6_BoolCountsAddUp.p9 (fun H' q => q = true ∧ Kp H H') n (.ptr (some (b1, 0))) cn (.ptr (some (b4, 0))) bb H4 := by
    rintro bb rfl
    unfold fetterlocklaw6_BoolCountsAddUp.p9
    refine CondB.pos rfl (RunT.imp ?_ built_c)
    rintro H5 q ⟨rfl, k5⟩
    exact ⟨rfl, kk4.trans k5⟩
  refine CondB.ne (fun hne => out _ rfl) fun h0 => ?_
  by_cases hn : ne = 0
  · have hb : (ne != 0) = false := by rw [hn]; rfl
    rw [hb]
    have hv0 : vFault l r n = 0 := he.symm.trans h0
    obtain ⟨x, k, rfl, hk, hx, hl, rfl, rfl, hvl, hv⟩ := vTree hv0
    have hat : atR (bld (rowsOf x)) (ref (ser x []) x) = x := by
      have h0 := hv0
      unfold vFault at h0
      split at h0
      · next h1 => exact absurd h0 h1
      next h1 =>
      have hd : dFault (rowsOf x) (ref (ser x []) x) = 0 := by simpa using h1
      obtain ⟨_, h2⟩ := dFault_len hd
      exact canon' h2.of.2.2.2.1 hx hv
    have hc := hc2 h0
    rw [hat, Int.toNat_natCast] at hc
    rcases hres with ⟨h1, h2, _⟩ | ⟨hd0, y, hy, hye, hdn⟩
    · exact absurd (h2.symm.trans hn) h1
    have hyx : y = neg x := canon' hy (neg_RO x hx) fun ρ => by rw [hye ρ, neg_eval]; simp only [hv ρ]
    subst hyx
    have hdr := hdn.res
    rcases hdr with ⟨_, _, h3, _⟩ | ⟨hyl, rfl, rfl, hsl⟩
    · omega
    have hvy := neg_vars x hvl
    have hp16 : 2 ^ k ≤ 65536 := pow2_lt hk
    unfold fetterlocklaw6_BoolCountsAddUp.p9
    refine CondB.neg rfl (Ld.o2 o4 ns _ rfl (RunT.imp ?_ (Count_c (n := k) hy (hsl.kp k4) hyl hk hvy)))
    rintro H5 (m : Int) (g : Int) ⟨rfl, rfl, k5⟩
    have kk5 := kk4.trans k5
    refine Ld.o2 (((o1.kp k2).kp k3).kp (k4.trans k5)) s (ref (ser x []) x) rfl (RunT.imp ?_ (Models_e (hs.kp kk5)))
    rintro H6 (ml : AC) (f : Int) ⟨k6, hm⟩
    rcases hm with ⟨h, _⟩ | ⟨_, h, _⟩ | ⟨_, _, _, rfl, Fo, Gi, hll⟩
    · exact absurd hv0 h
    · omega
    rw [hat, Int.toNat_natCast] at hll
    have hcn := cnt_neg hk hx hvl
    have hlen : (mR k x.eval 0 (2 ^ k)).length = cnt k 0 x := by
      have := cnt_mR hk k 0 0 x (by omega) (by omega) hx hvl (by omega)
      rwa [Nat.zero_mul, Nat.sub_zero] at this
    refine CondB.pos rfl (CondB.pos rfl (GE0.mk (by omega) (CondB.pos ?_ (hll.len (CondB.pos ?_ (RunT.imp ?_ built_c))))))
    · rw [shl_pow hk, hc, wrap64 (by omega) (by omega)]
      simp only [beq_iff_eq]
      omega
    · rw [List.length_take, hlen, hc]
      simp only [beq_iff_eq]
      split <;> omega
    · rintro H7 q ⟨rfl, k7⟩
      exact ⟨rfl, (kk5.trans k6).trans k7⟩
  · exact out _ (by simpa using hn)
end Go.Proofs.Ytanaaabejeeakaa
end
