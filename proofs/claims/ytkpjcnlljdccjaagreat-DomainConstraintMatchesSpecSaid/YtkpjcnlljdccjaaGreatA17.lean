/- Joined by a program: what the proof of the law leans on, part 17. -/
import Derived.Test.YtkpjcnlljdccjaaGreatA16
import Derived.Lib.Slices
set_option linter.unusedVariables false
set_option linter.unusedSimpArgs false
section
namespace Go.Proofs.YtkpjcnlljdccjaaGreat
open Go.AI
set_option linter.unusedVariables false
abbrev RelOk (c : Cn) : Prop := (c.k = 1 ∨ c.k = 10) → c.rel = 1 ∨ c.rel = 3 ∨ c.rel = 4
abbrev CoOk (c : Cn) (x : Int) : Prop := -100000 ≤ x ∧ x ≤ 100000 ∧ (c.k = 9 → 0 ≤ x) ∧ (c.k ≠ 9 → x ≠ 0)
abbrev BdOk (c : Cn) : Prop := if c.k = 7 then 0 ≤ c.bound ∧ c.bound ≤ 1 else if c.k = 2 ∨ c.k = 8 then -16384 ≤ c.bound ∧ c.bound ≤ 16384 else if c.k = 9 then 0 ≤ c.bound ∧ c.bound ≤ 1099511627776 else -1099511627776 ≤ c.bound ∧ c.bound ≤ 1099511627776
theorem take_all {α : Type} {l : List α} {i : Nat} {x : α} {P : α → Prop} (hx : l[i]? = some x) (h : ∀ y ∈ l.take i, P y) (hp : P x) : ∀ y ∈ l.take (i + 1), P y := by
  intro y hy
  rw [List.take_add_one, hx] at hy
  rcases List.mem_append.1 hy with hy | hy
  · exact h y hy
  · obtain rfl := List.mem_singleton.1 hy
    exact hp
theorem ranged_c {c : Cn} {sv sc sn st : AC} {H : AHeap} (h : CIn H c sv sc sn st) : Fn.Z23 c.k sv sc sn c.rel c.bound st H fun H' q => (q = true ↔ Ranged c) ∧ Kp H H' := by
  have llc := h.lc
  have lln := h.ln
  have llt := h.lt
  have lltt := h.ltt
  refine Z23.run ?_
  unfold Z23.W
  refine New.own fun b H1 hb hs1 o1 k1 => FA.mk (Ld.oi o1 rfl ?_)
  have h1 := h.kp k1
  have no : ¬ Ranged c → ((false : Bool) = true ↔ Ranged c) ∧ Kp H H1 := fun hn => ⟨⟨fun e => (by cases e), fun e => absurd e hn⟩, k1⟩
  have wi : ∀ {v lo hi : Int} {K : AHeap → Bool → Prop}, (∀ q : Bool, (q = true ↔ lo ≤ v ∧ v ≤ hi) → K H1 q) → Fn.Z25 v lo hi H1 K := fun {v lo hi K} hk => RunT.imp (by rintro H2 (q : Bool) ⟨e, hq⟩; obtain rfl : H1 = H2 := e.symm; exact hk q hq) rwithin_c
  -- the bound
  have l64 : RelOk c → (∀ x ∈ c.cs, CoOk c x) → (∀ x ∈ c.ns, 0 ≤ x ∧ x ≤ 100000) → Z23.l64 (fun H' q => (q = true ↔ Ranged c) ∧ Kp H H') (.ptr (some (b, 0))) 0 H1 := by
    intro r1 r2 r3
    unfold Z23.l64
    refine LoopT.rule (fun m s0 H2 => ∃ i : Nat, i ≤ c.ts.length ∧ m = c.ts.length - i ∧ s0 = (.ptr (some (b, 0)), (i : Int), ()) ∧ H2 = H1 ∧ ∀ t ∈ c.ts.take i, ∀ x ∈ t, -16384 ≤ x ∧ x ≤ 16384) c.ts.length ⟨0, by omega, by omega, rfl, rfl, fun t ht => by cases ht⟩ ?_
    rintro m s0 H2 back ⟨i, hi, rfl, rfl, rfl, hall⟩ hback
    simp only [Z23.b64]
    refine FA.mk (Ld.oc o1 rfl (h1.rt.len ?_))
    refine CondB.dec (fun hlt => ?_) fun hge => ?_
    · have hil : i < c.ts.length := by omega
      obtain ⟨t, ht⟩ : ∃ b, c.ts[i]? = some b := ⟨_, List.getElem?_eq_getElem hil⟩
      have htl := lltt t (List.mem_of_getElem? ht)
      have ht' : c.ts[((i : Int)).toNat]? = some t := by rw [Int.toNat_natCast]; exact ht
      unfold Z23.l76
      refine LoopT.rule (fun m s0 H3 => ∃ j : Nat, j ≤ t.length ∧ m = t.length - j ∧ s0 = (.ptr (some (b, 0)), (i : Int), (j : Int), ()) ∧ H3 = H2 ∧ ∀ x ∈ t.take j, -16384 ≤ x ∧ x ≤ 16384) t.length ⟨0, by omega, by omega, rfl, rfl, fun t ht => by cases ht⟩ ?_
      rintro m s0 H3 back2 ⟨j, hj, rfl, rfl, rfl, hall2⟩ hback2
      simp only [Z23.b76]
      refine FA.mk (Ld.oc o1 rfl (h1.rt.at (by omega) ht' fun x hx => LenS.of hx ?_))
      rw [iRows_len]
      refine CondB.dec (fun hlt => ?_) fun hge => ?_
      · have hjl : j < t.length := by omega
        obtain ⟨u, hu⟩ : ∃ b, t[j]? = some b := ⟨_, List.getElem?_eq_getElem hjl⟩
        refine FA.mk (Ld.oc o1 rfl (h1.rt.at (by omega) ht' fun x2 hx2 => ?_))
        refine IA.of hx2 (by omega) (by rw [Int.toNat_natCast]; exact iRow_at hu) fun b o hld => ldRow hld (wi fun q hq => ?_)
        refine CondB.mk (fun hn => no fun hr => ?_) fun hy => ?_
        · have := hr.ts t (List.mem_of_getElem? ht) u (List.mem_of_getElem? hu)
          rw [hq.2 this] at hn
          cases hn
        · have hin := hq.1 (by cases q <;> simp_all)
          refine hback2 (t.length - (j + 1)) _ _ (by omega) ⟨j + 1, by omega, rfl, ?_, rfl, take_all hu hall2 hin⟩
          exact tc rfl (tc rfl (tc ((wrap64 (by omega) (by omega)).trans (by omega)) rfl))
      · have hjl : j = t.length := by omega
        subst hjl
        rw [List.take_length] at hall2
        refine hback (c.ts.length - (i + 1)) _ _ (by omega) ⟨i + 1, by omega, rfl, ?_, rfl, take_all ht hall hall2⟩
        exact tc rfl (tc ((wrap64 (by omega) (by omega)).trans (by omega)) rfl)
    · have hil : i = c.ts.length := by omega
      subst hil
      rw [List.take_length] at hall
      have fin : ∀ {lo hi : Int}, (lo ≤ c.bound ∧ c.bound ≤ hi ↔ BdOk c) → Fn.Z25 c.bound lo hi H2 fun H' q => (q = true ↔ Ranged c) ∧ Kp H H' := fun {lo hi} hb => wi fun q hq => ⟨⟨fun e => ⟨r1, r2, r3, hall, hb.1 (hq.1 e)⟩, fun hr => hq.2 (hb.2 hr.bound)⟩, k1⟩
      have p105 : (c.k = 2 ∨ c.k = 8) → Z23.p105 (fun H' q => (q = true ↔ Ranged c) ∧ Kp H H') (.ptr (some (b, 0))) true H2 := by
        intro hk
        unfold Z23.p105
        refine CondB.pos rfl (FA.mk (Ld.oi o1 rfl (fin ?_)))
        unfold BdOk
        rw [if_neg (by omega), if_pos hk]
      refine FA.mk (Ld.oi o1 rfl (CondB.eq (fun h7 => FA.mk (Ld.oi o1 rfl (fin ?_))) fun h7 => FA.mk (Ld.oi o1 rfl (CondB.eq (fun h2 => p105 (.inl h2)) fun h2 => FA.mk (Ld.oi o1 rfl ?_)))))
      · unfold BdOk
        rw [if_pos h7]
      · by_cases h8 : c.k = 8
        · rw [show (c.k == 8) = true from by simpa using h8]
          exact p105 (.inr h8)
        · rw [show (c.k == 8) = false from by simpa using h8]
          unfold Z23.p105
          refine CondB.neg rfl (FA.mk (Ld.oi o1 rfl (CondB.eq (fun h9 => FA.mk (Ld.oi o1 rfl (fin ?_))) fun h9 => FA.mk (Ld.oi o1 rfl (fin ?_)))))
          · unfold BdOk
            rw [if_neg h7, if_neg (by omega), if_pos h9]
          · unfold BdOk
            rw [if_neg h7, if_neg (by omega), if_neg h9]
  have l43 : RelOk c → (∀ x ∈ c.cs, CoOk c x) → Z23.l43 (fun H' q => (q = true ↔ Ranged c) ∧ Kp H H') (.ptr (some (b, 0))) 0 H1 := by
    intro r1 r2
    unfold Z23.l43
    refine LoopT.rule (fun m s0 H2 => ∃ i : Nat, i ≤ c.ns.length ∧ m = c.ns.length - i ∧ s0 = (.ptr (some (b, 0)), (i : Int), ()) ∧ H2 = H1 ∧ ∀ x ∈ c.ns.take i, 0 ≤ x ∧ x ≤ 100000) c.ns.length ⟨0, by omega, by omega, rfl, rfl, fun t ht => by cases ht⟩ ?_
    rintro m s0 H2 back ⟨i, hi, rfl, rfl, rfl, hall⟩ hback
    simp only [Z23.b43]
    refine FA.mk (Ld.oc o1 rfl (LenS.of h1.rn ?_))
    rw [iRows_len]
    refine CondB.dec (fun hlt => ?_) fun hge => ?_
    · have hil : i < c.ns.length := by omega
      obtain ⟨u, hu⟩ : ∃ b, c.ns[i]? = some b := ⟨_, List.getElem?_eq_getElem hil⟩
      refine FA.mk (Ld.oc o1 rfl (IA.of h1.rn (by omega) (by rw [Int.toNat_natCast]; exact iRow_at hu) fun b o hld => ldRow hld (wi fun q hq => ?_)))
      refine CondB.mk (fun hn => no fun hr => ?_) fun hy => ?_
      · rw [hq.2 (hr.ns u (List.mem_of_getElem? hu))] at hn
        cases hn
      · have hin := hq.1 (by cases q <;> simp_all)
        refine hback (c.ns.length - (i + 1)) _ _ (by omega) ⟨i + 1, by omega, rfl, ?_, rfl, take_all hu hall hin⟩
        exact tc rfl (tc ((wrap64 (by omega) (by omega)).trans (by omega)) rfl)
    · have hil : i = c.ns.length := by omega
      subst hil
      rw [List.take_length] at hall
      exact l64 r1 r2 hall
  have p5 : RelOk c → Z23.p5 (fun H' q => (q = true ↔ Ranged c) ∧ Kp H H') (.ptr (some (b, 0))) false H1 := by
    intro r1
    unfold Z23.p5 Z23.l14
    refine CondB.neg rfl (LoopT.rule (fun m s0 H2 => ∃ i : Nat, i ≤ c.cs.length ∧ m = c.cs.length - i ∧ s0 = (.ptr (some (b, 0)), (i : Int), ()) ∧ H2 = H1 ∧ ∀ x ∈ c.cs.take i, CoOk c x) c.cs.length ⟨0, by omega, by omega, rfl, rfl, fun t ht => by cases ht⟩ ?_)
    rintro m s0 H2 back ⟨i, hi, rfl, rfl, rfl, hall⟩ hback
    simp only [Z23.b14]
    refine FA.mk (Ld.oc o1 rfl (LenS.of h1.rc ?_))
    rw [iRows_len]
    refine CondB.dec (fun hlt => ?_) fun hge => ?_
    · have hil : i < c.cs.length := by omega
      obtain ⟨u, hu⟩ : ∃ b, c.cs[i]? = some b := ⟨_, List.getElem?_eq_getElem hil⟩
      have rd : ∀ {K : Int → Prop}, K u → FA 2 (.ptr (some (b, 0))) fun q => Ld [.ac] H2 q fun (v : AC) => IA 1 v (i : Int) fun q => Ld [.int .i64] H2 q fun (x : Int) => K x := fun {K} hk => FA.mk (Ld.oc o1 rfl (IA.of h1.rc (by omega) (by rw [Int.toNat_natCast]; exact iRow_at hu) fun b o hld => ldRow hld hk))
      have ng : ¬ CoOk c u → Z23.p33 (fun H' q => (q = true ↔ Ranged c) ∧ Kp H H') back (.ptr (some (b, 0))) (i : Int) true H2 := by
        intro hn
        unfold Z23.p33
        exact CondB.pos rfl (no fun hr => hn (hr.cs u (List.mem_of_getElem? hu)))
      have yes : CoOk c u → Z23.p33 (fun H' q => (q = true ↔ Ranged c) ∧ Kp H H') back (.ptr (some (b, 0))) (i : Int) false H2 := by
        intro hy
        unfold Z23.p33
        refine CondB.neg rfl (hback (c.cs.length - (i + 1)) _ _ (by omega) ⟨i + 1, by omega, rfl, ?_, rfl, take_all hu hall hy⟩)
        exact tc rfl (tc ((wrap64 (by omega) (by omega)).trans (by omega)) rfl)
      have p31 : ∀ (lo : Int), lo = (if c.k = 9 then 0 else -100000) → Z23.p31 (fun H' q => (q = true ↔ Ranged c) ∧ Kp H H') back (.ptr (some (b, 0))) (i : Int) lo H2 := by
        intro lo hlo
        unfold Z23.p31
        refine rd (wi fun q hq => CondB.mk (fun hn => ng ?_) fun hy => rd ?_)
        · rintro ⟨a1, a2, a3, a4⟩
          have hq' : q = true := hq.2 ⟨by split at hlo; have := a3 (by assumption); omega; omega, a2⟩
          rw [hq'] at hn
          cases hn
        · have hin := hq.1 (by cases q <;> simp_all)
          have h0 : -100000 ≤ u ∧ u ≤ 100000 ∧ (c.k = 9 → 0 ≤ u) := by
            split at hlo
            · exact ⟨by omega, by omega, fun _ => by omega⟩
            · next h9 => exact ⟨by omega, by omega, fun e => absurd e h9⟩
          refine CondB.eq (fun hz => FA.mk (Ld.oi o1 rfl ?_)) fun hz => yes ⟨h0.1, h0.2.1, h0.2.2, fun _ => hz⟩
          by_cases h9 : c.k = 9
          · rw [show (c.k != 9) = false from by rw [h9]; rfl]
            exact yes ⟨h0.1, h0.2.1, h0.2.2, fun e => absurd h9 e⟩
          · rw [show (c.k != 9) = true from by simpa using h9]
            exact ng fun hc => hc.2.2.2 h9 hz
      refine FA.mk (Ld.oi o1 rfl (CondB.eq (fun h9 => p31 _ (by rw [if_pos h9])) fun h9 => p31 _ (by rw [if_neg h9])))
    · have hil : i = c.cs.length := by omega
      subst hil
      rw [List.take_length] at hall
      exact l43 r1 hall
  have rel : (c.k = 1 ∨ c.k = 10) → FA 4 (.ptr (some (b, 0))) fun q_5 => Ld [.int .i64] H1 q_5 fun (v_6 : Int) => CondB (v_6 != 1)
      (FA 4 (.ptr (some (b, 0))) fun q_7 => Ld [.int .i64] H1 q_7 fun (v_8 : Int) => CondB (v_8 != 3)
        (FA 4 (.ptr (some (b, 0))) fun q_9 => Ld [.int .i64] H1 q_9 fun (v_10 : Int) => Z23.p5 (fun H' q => (q = true ↔ Ranged c) ∧ Kp H H') (.ptr (some (b, 0))) (v_10 != 4) H1)
        (Z23.p5 (fun H' q => (q = true ↔ Ranged c) ∧ Kp H H') (.ptr (some (b, 0))) false H1))
      (Z23.p5 (fun H' q => (q = true ↔ Ranged c) ∧ Kp H H') (.ptr (some (b, 0))) false H1) := by
    intro hk
    refine FA.mk (Ld.oi o1 rfl (CondB.ne (fun g1 => FA.mk (Ld.oi o1 rfl (CondB.ne (fun g3 => FA.mk (Ld.oi o1 rfl ?_)) fun g3 => p5 fun _ => .inr (.inl g3)))) fun g1 => p5 fun _ => .inl g1))
    by_cases g4 : c.rel = 4
    · rw [show (c.rel != 4) = false from by rw [g4]; rfl]
      exact p5 fun _ => .inr (.inr g4)
    · rw [show (c.rel != 4) = true from by simpa using g4]
      unfold Z23.p5
      exact CondB.pos rfl (no fun hr => by have := hr.rel hk; omega)
  refine CondB.eq (fun hk => rel (.inl hk)) fun hk1 => FA.mk (Ld.oi o1 rfl (CondB.eq (fun hk => rel (.inr hk)) fun hk10 => p5 fun hk => by omega))
theorem scanV_at {k vars : Int} : ∀ {l : List Int} {i : Nat} {v : Int}, l[i]? = some v → scanV k vars (l.take i) (l.drop i) = if v < 0 ∨ vars ≤ v then 1 else if v ∈ l.take i ∧ ¬ (k = 6 ∧ i = 1) then 5 else scanV k vars (l.take (i + 1)) (l.drop (i + 1)) := by
  intro l i v h
  obtain ⟨hi, e⟩ := List.getElem?_eq_some_iff.1 h
  rw [List.drop_eq_getElem_cons hi, e]
  rw [scanV]
  rw [List.length_take, Nat.min_eq_left (by omega)]
  rw [show l.take (i + 1) = l.take i ++ [v] from by rw [List.take_add_one, h]; rfl]
theorem cF7 {c : Cn} {vars : Int} (h : c.k < 1 ∨ 10 < c.k) : cFault c vars = 7 := by unfold cFault; rw [if_pos h]
theorem cF3 {c : Cn} {vars : Int} (h : ¬ (c.k < 1 ∨ 10 < c.k)) (h2 : ¬ arityOk c.k c.vs.length) : cFault c vars = 3 := by unfold cFault; rw [if_neg h, if_pos h2]
theorem cFs {c : Cn} {vars : Int} (h : ¬ (c.k < 1 ∨ 10 < c.k)) (h2 : arityOk c.k c.vs.length) (h3 : scanV c.k vars [] c.vs ≠ 0) : cFault c vars = scanV c.k vars [] c.vs := by unfold cFault; rw [if_neg h, if_neg (Classical.not_not.2 h2), if_pos h3]
theorem cFr {c : Cn} {vars : Int} (h : ¬ (c.k < 1 ∨ 10 < c.k)) (h2 : arityOk c.k c.vs.length) (h3 : scanV c.k vars [] c.vs = 0) : (¬ Formed c → cFault c vars = 2) ∧ (Formed c → 200 < c.ts.length → cFault c vars = 3) ∧ (Formed c → ¬ 200 < c.ts.length → ¬ Ranged c → cFault c vars = 1) ∧ (Formed c → ¬ 200 < c.ts.length → Ranged c → cFault c vars = 0) := by
  unfold cFault
  rw [if_neg h, if_neg (Classical.not_not.2 h2), if_neg (Classical.not_not.2 h3)]
  refine ⟨fun a => by rw [if_pos a], fun a b => by rw [if_neg (Classical.not_not.2 a), if_pos b], fun a b d => by rw [if_neg (Classical.not_not.2 a), if_neg b, if_pos d], fun a b d => by rw [if_neg (Classical.not_not.2 a), if_neg b, if_neg (Classical.not_not.2 d)]⟩
theorem Fault_c {c : Cn} {vars : Int} {sv sc sn st : AC} {H : AHeap} (h : CIn H c sv sc sn st) : Fn.Z15 c.k sv sc sn c.rel c.bound st vars H fun H' q => q = cFault c vars ∧ Kp H H' := by
  have llv := h.lv
  refine Z15.run ?_
  unfold Z15.W
  refine New.own fun b H1 hb hs1 o1 k1 => FA.mk (Ld.oi o1 rfl (RunT.imp ?_ rwithin_c))
  rintro H2 (q : Bool) ⟨e2, hq⟩
  obtain rfl : H1 = H2 := e2.symm
  have h1 := h.kp k1
  refine CondB.mk (fun hn => ?_) fun hy => ?_
  · have hb : c.k < 1 ∨ 10 < c.k := by
      by_cases hc : 1 ≤ c.k ∧ c.k ≤ 10
      · rw [hq.2 hc] at hn; cases hn
      · omega
    exact ⟨(cF7 hb).symm, k1⟩
  have hk := hq.1 (by cases q <;> simp_all)
  have hkk : ¬ (c.k < 1 ∨ 10 < c.k) := by omega
  refine FA.mk (Ld.oi o1 rfl (FA.mk (Ld.oc o1 rfl (LenS.of h1.rv ?_))))
  rw [iRows_len]
  refine RunT.imp ?_ arity_c
  rintro H3 (q : Bool) ⟨e3, hq3⟩
  obtain rfl : H1 = H3 := e3.symm
  refine CondB.mk (fun hn => ?_) fun hy => ?_
  · have hb : ¬ arityOk c.k c.vs.length := fun hc => by rw [hq3.2 hc] at hn; cases hn
    exact ⟨(cF3 hkk hb).symm, k1⟩
  have har := hq3.1 (by cases q <;> simp_all)
  have hv1 : 1 ≤ c.vs.length ∧ c.vs.length ≤ 16 := by
    unfold arityOk at har
    split at har
    · omega
    split at har
    · omega
    split at har
    · omega
    split at har <;> omega
  unfold Z15.l22
  refine LoopT.rule (fun m s0 H2 => ∃ i : Nat, i ≤ c.vs.length ∧ m = c.vs.length - i ∧ s0 = (vars, .ptr (some (b, 0)), (i : Int), ()) ∧ H2 = H1 ∧ scanV c.k vars [] c.vs = scanV c.k vars (c.vs.take i) (c.vs.drop i)) c.vs.length ⟨0, by omega, by omega, rfl, rfl, rfl⟩ ?_
  rintro m s0 H2 back ⟨i, hi, rfl, rfl, rfl, hscan⟩ hback
  simp only [Z15.b22]
  refine FA.mk (Ld.oc o1 rfl (LenS.of h1.rv ?_))
  rw [iRows_len]
  refine CondB.dec (fun hlt => ?_) fun hge => ?_
  · have hil : i < c.vs.length := by omega
    obtain ⟨u, hu⟩ : ∃ b, c.vs[i]? = some b := ⟨_, List.getElem?_eq_getElem hil⟩
    have hat := scanV_at (k := c.k) (vars := vars) hu
    rw [← hscan] at hat
    have rd : ∀ {j : Nat} {w : Int} {K : Int → Prop}, c.vs[j]? = some w → K w → FA 1 (.ptr (some (b, 0))) fun q => Ld [.ac] H2 q fun (v : AC) => IA 1 v (j : Int) fun q => Ld [.int .i64] H2 q fun (x : Int) => K x := fun {j w K} hw hk => FA.mk (Ld.oc o1 rfl (IA.of h1.rv (by omega) (by rw [Int.toNat_natCast]; exact iRow_at hw) fun b o hld => ldRow hld hk))
    have bad : (u < 0 ∨ vars ≤ u) → Z15.p34 (fun H' q => q = cFault c vars ∧ Kp H H') back vars (.ptr (some (b, 0))) (i : Int) true H2 := by
      intro hc
      unfold Z15.p34
      rw [if_pos hc] at hat
      exact CondB.pos rfl ⟨by rw [cFs hkk har (by omega), hat], k1⟩
    refine rd hu (CondB.dec (fun hc => bad (.inl hc)) fun hc0 => rd hu ?_)
    by_cases hcv : vars ≤ u
    · rw [decide_eq_true (show u ≥ vars from hcv)]
      exact bad (.inr hcv)
    rw [decide_eq_false (show ¬ u ≥ vars from hcv)]
    rw [if_neg (by omega)] at hat
    unfold Z15.p34
    refine CondB.neg rfl ?_
    unfold Z15.l42
    refine LoopT.rule (fun m s0 H3 => ∃ j : Nat, j ≤ i ∧ m = i - j ∧ s0 = (vars, .ptr (some (b, 0)), (i : Int), (j : Int), ()) ∧ H3 = H2 ∧ ((c.k = 6 ∧ i = 1) ∨ ∀ x ∈ c.vs.take j, x ≠ u)) i ⟨0, by omega, by omega, rfl, rfl, .inr fun t ht => by cases ht⟩ ?_
    rintro m s0 H3 back2 ⟨j, hj, rfl, rfl, rfl, hall⟩ hback2
    simp only [Z15.b42]
    refine CondB.dec (fun hlt => ?_) fun hge => ?_
    · have hji : j < i := by omega
      obtain ⟨w, hw⟩ : ∃ b, c.vs[j]? = some b := ⟨_, List.getElem?_eq_getElem (by omega)⟩
      have on : ((c.k = 6 ∧ i = 1) ∨ w ≠ u) → Z15.p53 (fun H' q => q = cFault c vars ∧ Kp H H') back back2 vars (.ptr (some (b, 0))) (i : Int) (j : Int) false H3 := by
        intro hx
        unfold Z15.p53
        refine CondB.neg rfl (hback2 (i - (j + 1)) _ _ (by omega) ⟨j + 1, by omega, rfl, ?_, rfl, ?_⟩)
        · exact tc rfl (tc rfl (tc rfl (tc ((wrap64 (by omega) (by omega)).trans (by omega)) rfl)))
        · rcases hx with hx | hx
          · exact .inl hx
          · exact hall.imp id fun h => take_all hw h hx
      have off : ¬ (c.k = 6 ∧ i = 1) → w = u → Z15.p53 (fun H' q => q = cFault c vars ∧ Kp H H') back back2 vars (.ptr (some (b, 0))) (i : Int) (j : Int) true H3 := by
        intro hx he
        unfold Z15.p53
        have hmem : u ∈ c.vs.take i := by
          rw [← he]
          exact List.mem_of_getElem? (i := j) (by rw [List.getElem?_take, if_pos hji]; exact hw)
        rw [if_pos ⟨hmem, hx⟩] at hat
        exact CondB.pos rfl ⟨by rw [cFs hkk har (by omega), hat], k1⟩
      refine rd hw (rd hu (CondB.eq (fun he => FA.mk (Ld.oi o1 rfl (CondB.eq (fun h6 => ?_) fun h6 => off (fun e => h6 e.1) he))) fun hne => on (.inr hne)))
      by_cases hi1 : i = 1
      · rw [show (!((i : Int) == 1)) = false from by rw [hi1]; rfl]
        exact on (.inl ⟨h6, hi1⟩)
      · rw [show (!((i : Int) == 1)) = true from by simp; omega]
        exact off (fun e => hi1 e.2) he
    · have hji : j = i := by omega
      subst hji
      have hno : ¬ (u ∈ c.vs.take j ∧ ¬ (c.k = 6 ∧ j = 1)) := by
        rintro ⟨hm, hx⟩
        rcases hall with h | h
        · exact hx h
        · exact h u hm rfl
      rw [if_neg hno] at hat
      refine hback (c.vs.length - (j + 1)) _ _ (by omega) ⟨j + 1, by omega, rfl, ?_, rfl, hat⟩
      exact tc rfl (tc rfl (tc ((wrap64 (by omega) (by omega)).trans (by omega)) rfl))
  · have hil : i = c.vs.length := by omega
    subst hil
    rw [List.take_length, List.drop_length] at hscan
    have hz : scanV c.k vars [] c.vs = 0 := hscan
    obtain ⟨g1, g2, g3, g4⟩ := cFr hkk har hz
    refine Ld.o7 o1 c.k sv sc sn c.rel c.bound st rfl (RunT.imp ?_ (formed_c h1 hv1.1))
    rintro H3 (q : Bool) ⟨hq4, k3⟩
    have k13 := k1.trans k3
    have o3 := o1.kp k3
    refine CondB.mk (fun hn => ?_) fun hy => ?_
    · exact ⟨(g1 fun hc => by rw [hq4.2 hc] at hn; cases hn).symm, k13⟩
    have hfm := hq4.1 (by cases q <;> simp_all)
    refine FA.mk (Ld.oc o3 rfl ((h.kp k13).rt.len ?_))
    refine CondB.dec (fun hc => ?_) fun hc => ?_
    · exact ⟨(g2 hfm (by omega)).symm, k13⟩
    have hcn : ¬ 200 < c.ts.length := by omega
    refine Ld.o7 o3 c.k sv sc sn c.rel c.bound st rfl (RunT.imp ?_ (ranged_c (h.kp k13)))
    rintro H4 (q : Bool) ⟨hq5, k4⟩
    have k14 := k13.trans k4
    refine CondB.mk (fun hn => ?_) fun hy => ?_
    · exact ⟨(g3 hfm hcn fun hc => by rw [hq5.2 hc] at hn; cases hn).symm, k14⟩
    · exact ⟨(g4 hfm hcn (hq5.1 (by cases q <;> simp_all))).symm, k14⟩
end Go.Proofs.YtkpjcnlljdccjaaGreat
end
section
namespace Go.Proofs.YtkpjcnlljdccjaaGreat
open Go.AI
set_option linter.unusedVariables false
theorem lt80 : 80 < Tryz.prog.funcs.size := (Array.getElem?_eq_some_iff.1 Tryz.func80).1
theorem lt81 : 81 < Tryz.prog.funcs.size := (Array.getElem?_eq_some_iff.1 Tryz.func81).1
def shLeast (k : Int) : Int := if k = 4 ∨ k = 6 then 3 else if k = 2 ∨ k = 7 ∨ k = 8 ∨ k = 10 then 2 else 1
def shMost (k : Int) : Int := if k = 2 then 2 else if k = 6 then 3 else 16
def shC (k : Int) : Bool := decide (k = 1 ∨ k = 9 ∨ k = 10)
def shN (k : Int) : Bool := decide (k = 9)
def shR (k : Int) : Bool := decide (k = 1 ∨ k = 10)
def shB (k : Int) : Bool := decide (¬ (k = 3 ∨ k = 4 ∨ k = 5 ∨ k = 6))
def shT (k : Int) : Bool := decide (k = 5)
theorem shapeOf_c {k : Int} {H : AHeap} : Fn.Z11 k H fun H' l m c n r b t is => Kp H H' ∧ ((is = false ∧ (k < 1 ∨ 10 < k)) ∨ (is = true ∧ 1 ≤ k ∧ k ≤ 10 ∧ l = shLeast k ∧ m = shMost k ∧ c = shC k ∧ n = shN k ∧ r = shR k ∧ b = shB k ∧ t = shT k)) := by
  refine Z11.run ?_
  unfold Z11.W
  refine New.own fun pb H1 hpb hs1 o1 k1 => ?_
  have br : ∀ (l m : Int) (c n r b t is : Bool), ((is = false ∧ (k < 1 ∨ 10 < k)) ∨ (is = true ∧ 1 ≤ k ∧ k ≤ 10 ∧ l = shLeast k ∧ m = shMost k ∧ c = shC k ∧ n = shN k ∧ r = shR k ∧ b = shB k ∧ t = shT k)) →
      Sto H1 (.ptr (some (pb, 0))) [(.int .i64 l), (.int .i64 m), (.bool c), (.bool n), (.bool r), (.bool b), (.bool t)] fun H_3 =>
      Ld [.int .i64, .int .i64, .bool, .bool, .bool, .bool, .bool] H_3 (.ptr (some (pb, 0))) fun (r0 : Int) (r1 : Int) (r2 : Bool) (r3 : Bool) (r4 : Bool) (r5 : Bool) (r6 : Bool) =>
      Kp H H_3 ∧ ((is = false ∧ (k < 1 ∨ 10 < k)) ∨ (is = true ∧ 1 ≤ k ∧ k ≤ 10 ∧ r0 = shLeast k ∧ r1 = shMost k ∧ r2 = shC k ∧ r3 = shN k ∧ r4 = shR k ∧ r5 = shB k ∧ r6 = shT k)) := by
    intro l m c n r b t is hp
    refine Sto.own o1 (Nat.le_refl 7) fun H2 o2 k2 hs2 => ?_
    exact Ld.o7 o2 l m c n r b t rfl ⟨k1.fresh k2 fun y e => by have e' : y = pb := e; omega, hp⟩
  have p50 : (k = 7 ∨ k = 8) → Z11.p50 (fun H' l m c n r b t is => Kp H H' ∧ ((is = false ∧ (k < 1 ∨ 10 < k)) ∨ (is = true ∧ 1 ≤ k ∧ k ≤ 10 ∧ l = shLeast k ∧ m = shMost k ∧ c = shC k ∧ n = shN k ∧ r = shR k ∧ b = shB k ∧ t = shT k))) (.ptr (some (pb, 0))) 16 k true H1 := by
    intro hk
    unfold Z11.p50
    refine CondB.pos rfl (br _ _ _ _ _ _ _ true (.inr ⟨rfl, ?_⟩))
    rcases hk with rfl | rfl <;> refine ⟨by omega, by omega, ?_⟩ <;> decide
  refine CondB.eq (fun h => br _ _ _ _ _ _ _ true (.inr ⟨rfl, ?_⟩)) fun h1 => CondB.eq (fun h => br _ _ _ _ _ _ _ true (.inr ⟨rfl, ?_⟩)) fun h2 => CondB.eq (fun h => br _ _ _ _ _ _ _ true (.inr ⟨rfl, ?_⟩)) fun h3 => CondB.eq (fun h => br _ _ _ _ _ _ _ true (.inr ⟨rfl, ?_⟩)) fun h4 => CondB.eq (fun h => br _ _ _ _ _ _ _ true (.inr ⟨rfl, ?_⟩)) fun h5 => CondB.eq (fun h => br _ _ _ _ _ _ _ true (.inr ⟨rfl, ?_⟩)) fun h6 => CondB.eq (fun h => p50 (.inl h)) fun h7 => ?_
  · subst h; refine ⟨by omega, by omega, ?_⟩; decide
  · subst h; refine ⟨by omega, by omega, ?_⟩; decide
  · subst h; refine ⟨by omega, by omega, ?_⟩; decide
  · subst h; refine ⟨by omega, by omega, ?_⟩; decide
  · subst h; refine ⟨by omega, by omega, ?_⟩; decide
  · subst h; refine ⟨by omega, by omega, ?_⟩; decide
  by_cases h8 : k = 8
  · rw [show (k == 8) = true from by simpa using h8]
    exact p50 (.inr h8)
  rw [show (k == 8) = false from by simpa using h8]
  unfold Z11.p50
  refine CondB.neg rfl (CondB.eq (fun h => br _ _ _ _ _ _ _ true (.inr ⟨rfl, ?_⟩)) fun h9 => CondB.eq (fun h => br _ _ _ _ _ _ _ true (.inr ⟨rfl, ?_⟩)) fun h10 => br _ _ _ _ _ _ _ false (.inl ⟨rfl, by omega⟩))
  · subst h; refine ⟨by omega, by omega, ?_⟩; decide
  · subst h; refine ⟨by omega, by omega, ?_⟩; decide
theorem IndexI_c {s : AC} {l : List Int} {v : Int} {H : AHeap} (hs : SlR H s 1 (iRows l)) (hl : l.length ≤ 9223372036854775807) : Fn.Z33 s v H fun H' q => H' = H ∧ (0 ≤ q ↔ v ∈ l) := by
  refine Z33.run ?_
  unfold Z33.W Z33.l6
  refine LenS.of hs ?_
  rw [iRows_len]
  refine LoopT.rule (fun m s0 H3 => ∃ i : Nat, i ≤ l.length ∧ m = l.length - i ∧ s0 = (s, v, (l.length : Int), (i : Int), ()) ∧ H3 = H ∧ v ∉ l.take i) l.length ⟨0, by omega, by omega, rfl, rfl, by simp⟩ ?_
  rintro m s0 H3 back ⟨i, hi, rfl, rfl, rfl, hno⟩ hback
  simp only [Z33.b6]
  refine CondB.dec (fun hlt => ?_) fun hge => ?_
  · have hil : i < l.length := by omega
    obtain ⟨p, hp⟩ : ∃ b, l[i]? = some b := ⟨_, List.getElem?_eq_getElem hil⟩
    refine IA.of hs (by omega) (by rw [Int.toNat_natCast]; exact iRow_at hp) fun b o hld => ldRow hld ?_
    refine CondB.eq (fun he => ⟨trivial, fun _ => ?_, fun _ => ?_⟩) fun hne => ?_
    · rw [he]; exact List.mem_of_getElem? hp
    · show (0 : Int) ≤ (i : Int); omega
    · refine hback (l.length - (i + 1)) _ _ (by omega) ⟨i + 1, by omega, rfl, ?_, rfl, ?_⟩
      · exact tc rfl (tc rfl (tc rfl (tc ((wrap64 (by omega) (by omega)).trans (by omega)) rfl)))
      · rw [List.take_add_one, hp]
        intro hm
        rcases List.mem_append.1 hm with hm | hm
        · exact hno hm
        · exact hne (List.mem_singleton.1 hm)
  · have hil : i = l.length := by omega
    subst hil
    rw [List.take_length] at hno
    exact ⟨trivial, fun h => by exfalso; have h' : (0 : Int) ≤ -1 := h; omega, fun h => absurd h hno⟩
theorem ContainsI_c {s : AC} {l : List Int} {v : Int} {H : AHeap} (hs : SlR H s 1 (iRows l)) (hl : l.length ≤ 9223372036854775807) : Fn.Z29 s v H fun H' q => H' = H ∧ (q = true ↔ v ∈ l) := by
  refine Z29.run ?_
  unfold Z29.W
  refine RunT.imp ?_ (IndexI_c (v := v) hs hl)
  rintro H1 (q : Int) ⟨e, h⟩
  exact ⟨e, by rw [decide_eq_true_iff]; exact h⟩
theorem IndexFuncI_c {s fn : AC} {l : List Int} {H : AHeap} {f : Int → Bool} (hs : SlR H s 1 (iRows l)) (hlen : l.length ≤ 9223372036854775807)
    (hf : ∀ (p : Int) (H2 : AHeap), Kp H H2 → CVT Tryz.prog [(false, [.bool])] fn [(.one (.int .i64 p))] H2 fun H3 b => Kp H2 H3 ∧ b = f p) :
    Fn.Z31 s fn H fun H' q => Kp H H' ∧ (0 ≤ q ↔ ∃ p ∈ l, f p = true) := by
  refine Z31.run ?_
  unfold Z31.W Z31.l6
  refine LenS.of hs ?_
  rw [iRows_len]
  refine LoopT.rule (fun m s0 H3 => ∃ i : Nat, i ≤ l.length ∧ m = l.length - i ∧ s0 = (s, fn, (l.length : Int), (i : Int), ()) ∧ Kp H H3 ∧ ∀ p ∈ l.take i, f p = false) l.length ⟨0, by omega, by omega, rfl, Kp.refl _, fun p h => by cases h⟩ ?_
  rintro m s0 H3 back ⟨i, hi, rfl, rfl, k3, hall⟩ hback
  simp only [Z31.b6]
  refine CondB.dec (fun hlt => ?_) fun hge => ?_
  · have hi' : i < l.length := by omega
    obtain ⟨p, hp⟩ : ∃ b, l[i]? = some b := ⟨_, List.getElem?_eq_getElem hi'⟩
    refine IA.of (hs.kp k3) (by omega) (by rw [Int.toNat_natCast]; exact iRow_at hp) fun b1 o1 hld => ldRow hld ?_
    refine CVT.imp ?_ (hf p H3 k3)
    rintro H4 b ⟨k4, rfl⟩
    refine CondB.mk (fun hc => ⟨k3.trans k4, ?_⟩) fun hc => ?_
    · exact ⟨fun _ => ⟨p, List.mem_of_getElem? hp, hc⟩, fun _ => by show (0 : Int) ≤ (i : Int); omega⟩
    · refine hback (l.length - (i + 1)) _ _ (by omega) ⟨i + 1, by omega, rfl, ?_, k3.trans k4, take_all hp hall hc⟩
      exact tc rfl (tc rfl (tc rfl (tc ((wrap64 (by omega) (by omega)).trans (by omega)) rfl)))
  · have hil : i = l.length := by omega
    subst hil
    rw [List.take_length] at hall
    refine ⟨k3, fun h => by exfalso; have h' : (0 : Int) ≤ -1 := h; omega, fun ⟨p, hp, he⟩ => ?_⟩
    rw [hall p hp] at he; cases he
theorem IndexFuncL_c {s fn : AC} {l : List (List Int)} {H : AHeap} {f : List Int → Bool} (hs : SlL H s l) (hlen : l.length ≤ 9223372036854775807)
    (hf : ∀ (p : List Int) (x : AC) (H2 : AHeap), p ∈ l → SlR H2 x 1 (iRows p) → Kp H H2 → CVT Tryz.prog [(false, [.bool])] fn [(.one x)] H2 fun H3 b => Kp H2 H3 ∧ b = f p) :
    Fn.Z32 s fn H fun H' q => Kp H H' ∧ (0 ≤ q ↔ ∃ p ∈ l, f p = true) := by
  refine Z32.run ?_
  unfold Z32.W Z32.l6
  refine hs.len ?_
  refine LoopT.rule (fun m s0 H3 => ∃ i : Nat, i ≤ l.length ∧ m = l.length - i ∧ s0 = (s, fn, (l.length : Int), (i : Int), ()) ∧ Kp H H3 ∧ ∀ p ∈ l.take i, f p = false) l.length ⟨0, by omega, by omega, rfl, Kp.refl _, fun p h => by cases h⟩ ?_
  rintro m s0 H3 back ⟨i, hi, rfl, rfl, k3, hall⟩ hback
  simp only [Z32.b6]
  refine CondB.dec (fun hlt => ?_) fun hge => ?_
  · have hi' : i < l.length := by omega
    obtain ⟨p, hp⟩ : ∃ b, l[i]? = some b := ⟨_, List.getElem?_eq_getElem hi'⟩
    refine (hs.kp k3).at (by omega) (by rw [Int.toNat_natCast]; exact hp) fun x hx => ?_
    refine CVT.imp ?_ (hf p x H3 (List.mem_of_getElem? hp) hx k3)
    rintro H4 b ⟨k4, rfl⟩
    refine CondB.mk (fun hc => ⟨k3.trans k4, ?_⟩) fun hc => ?_
    · exact ⟨fun _ => ⟨p, List.mem_of_getElem? hp, hc⟩, fun _ => by show (0 : Int) ≤ (i : Int); omega⟩
    · refine hback (l.length - (i + 1)) _ _ (by omega) ⟨i + 1, by omega, rfl, ?_, k3.trans k4, take_all hp hall hc⟩
      exact tc rfl (tc rfl (tc rfl (tc ((wrap64 (by omega) (by omega)).trans (by omega)) rfl)))
  · have hil : i = l.length := by omega
    subst hil
    rw [List.take_length] at hall
    refine ⟨k3, fun h => by exfalso; have h' : (0 : Int) ≤ -1 := h; omega, fun ⟨p, hp, he⟩ => ?_⟩
    rw [hall p hp] at he; cases he
end Go.Proofs.YtkpjcnlljdccjaaGreat
end
section
namespace Go.Proofs.YtkpjcnlljdccjaaGreat
open Go.AI
set_option linter.unusedVariables false
theorem form_c {c : Cn} {sv sc sn st : AC} {l m : Int} {H : AHeap} (h : CIn H c sv sc sn st) (hv : 1 ≤ c.vs.length) (hk : 1 ≤ c.k ∧ c.k ≤ 10) :
    Fn.Z4 c.k sv sc sn c.rel c.bound st l m (shC c.k) (shN c.k) (shR c.k) (shB c.k) (shT c.k) H fun H' q => (q = true ↔ Formed c) ∧ Kp H H' := by
  have llv := h.lv
  have llt := h.lt
  refine Z4.run ?_
  unfold Z4.W
  refine New.own fun b H1 hb hs1 o0 k1 => New.own fun b2 H2 hb2 hs2 o2 k2 => ?_
  have o1 := o0.kp k2
  have kk := k1.trans k2
  have h2 := h.kp kk
  have no : ¬ Formed c → Z4.p25 (fun H' q => (q = true ↔ Formed c) ∧ Kp H H') (.ptr (some (b, 0))) true H2 := fun hn => by
    unfold Z4.p25
    exact CondB.pos rfl ⟨⟨fun e => (by cases e), fun e => absurd e hn⟩, kk⟩
  -- the lists
  have p25 : (c.cs.length : Int) = (if c.k = 1 ∨ c.k = 9 then (c.vs.length : Int) else if c.k = 10 then (c.vs.length : Int) - 1 else 0) → (c.ns.length : Int) = (if c.k = 9 then (c.vs.length : Int) else 0) → (c.rel = 0 ∨ c.k = 1 ∨ c.k = 10) → (c.bound = 0 ∨ ¬ (c.k = 3 ∨ c.k = 4 ∨ c.k = 5 ∨ c.k = 6)) →
      FA 6 (.ptr (some (b2, 0))) fun q_15 => Ld [.bool] H2 q_15 fun (v_16 : Bool) => FA 6 (.ptr (some (b, 0))) fun q_17 => Ld [.ac] H2 q_17 fun (v_18 : AC) => LenS v_18 fun n_19 =>
        Z4.p25 (fun H' q => (q = true ↔ Formed c) ∧ Kp H H') (.ptr (some (b, 0))) (!(v_16 == (decide (n_19 > 0)))) H2 := by
    intro f1 f2 f3 f4
    refine FA.mk (Ld.ob o2 rfl (FA.mk (Ld.oc o1 rfl (h2.rt.len ?_))))
    by_cases ht : (c.k = 5 ↔ 0 < c.ts.length)
    · have e : shT c.k = decide ((c.ts.length : Int) > 0) := by unfold shT; rw [decide_eq_decide]; omega
      rw [e, show (!(decide ((c.ts.length : Int) > 0) == decide ((c.ts.length : Int) > 0))) = false from by simp]
      unfold Z4.p25
      refine CondB.neg rfl (FA.mk (Ld.oc o1 rfl (Fnc.mk rfl rfl ?_)))
      refine Z28.run ?_
      unfold Z28.W
      refine RunT.imp ?_ (IndexFuncL_c (f := fun p => decide (p.length ≠ c.vs.length)) h2.rt llt fun p x H3 hp hx k3 => CVT.mk lt80 ?_)
      · rintro H3 (q : Int) ⟨k3, hq⟩
        refine ⟨?_, kk.trans k3⟩
        rw [Bool.not_eq_true', decide_eq_false_iff_not, ge_iff_le, hq]
        constructor
        · intro hn
          have hall : ∀ t ∈ c.ts, t.length = c.vs.length := fun t ht => by
            by_cases e : t.length = c.vs.length
            · exact e
            · exact absurd ⟨t, ht, decide_eq_true e⟩ hn
          exact ⟨f1, f2, f3, f4, fun hk5 => List.eq_nil_of_length_eq_zero (by omega), fun hk5 => ⟨fun e => by rw [e] at ht; simp at ht; exact ht hk5, hall⟩⟩
        · rintro hf ⟨t, ht', hd⟩
          have hne := of_decide_eq_true hd
          by_cases hk5 : c.k = 5
          · exact hne ((hf.some hk5).2 t ht')
          · rw [hf.none hk5] at ht'; cases ht'
      · refine Z5.run ?_
        unfold Z5.W
        refine LenS.of hx ?_
        rw [iRows_len]
        refine FA.mk (Ld.oc (o1.kp k3) rfl (LenS.of (h2.kp k3).rv ?_))
        rw [iRows_len]
        have hb : ((p.length : Int) != (c.vs.length : Int)) = decide (p.length ≠ c.vs.length) := by
          by_cases e : p.length = c.vs.length
          · rw [decide_eq_false (by simpa using e), e]; simp
          · rw [decide_eq_true e, bne_iff_ne]; omega
        exact ⟨Kp.refl _, hb⟩
    · have e : shT c.k ≠ decide ((c.ts.length : Int) > 0) := by
        intro e
        unfold shT at e
        rw [decide_eq_decide] at e
        exact ht (by omega)
      rw [show (!(shT c.k == decide ((c.ts.length : Int) > 0))) = true from by simpa using e]
      refine no fun hf => ht ⟨fun hk5 => ?_, fun hl => ?_⟩
      · have := (hf.some hk5).1
        have : c.ts.length ≠ 0 := fun e => this (List.eq_nil_of_length_eq_zero e)
        omega
      · by_cases hk5 : c.k = 5
        · exact hk5
        · rw [hf.none hk5] at hl; simp at hl
  have bnd : (c.cs.length : Int) = (if c.k = 1 ∨ c.k = 9 then (c.vs.length : Int) else if c.k = 10 then (c.vs.length : Int) - 1 else 0) → (c.ns.length : Int) = (if c.k = 9 then (c.vs.length : Int) else 0) → (c.rel = 0 ∨ c.k = 1 ∨ c.k = 10) →
      FA 5 (.ptr (some (b2, 0))) fun q_11 => Ld [.bool] H2 q_11 fun (v_12 : Bool) => CondB (!v_12)
        (FA 5 (.ptr (some (b, 0))) fun q_13 => Ld [.int .i64] H2 q_13 fun (v_14 : Int) => CondB (v_14 != 0)
          (Z4.p25 (fun H' q => (q = true ↔ Formed c) ∧ Kp H H') (.ptr (some (b, 0))) true H2)
          (FA 6 (.ptr (some (b2, 0))) fun q_15 => Ld [.bool] H2 q_15 fun (v_16 : Bool) => FA 6 (.ptr (some (b, 0))) fun q_17 => Ld [.ac] H2 q_17 fun (v_18 : AC) => LenS v_18 fun n_19 =>
            Z4.p25 (fun H' q => (q = true ↔ Formed c) ∧ Kp H H') (.ptr (some (b, 0))) (!(v_16 == (decide (n_19 > 0)))) H2))
        (FA 6 (.ptr (some (b2, 0))) fun q_15 => Ld [.bool] H2 q_15 fun (v_16 : Bool) => FA 6 (.ptr (some (b, 0))) fun q_17 => Ld [.ac] H2 q_17 fun (v_18 : AC) => LenS v_18 fun n_19 =>
            Z4.p25 (fun H' q => (q = true ↔ Formed c) ∧ Kp H H') (.ptr (some (b, 0))) (!(v_16 == (decide (n_19 > 0)))) H2) := by
    intro f1 f2 f3
    refine FA.mk (Ld.ob o2 rfl ?_)
    by_cases hb : c.k = 3 ∨ c.k = 4 ∨ c.k = 5 ∨ c.k = 6
    · refine CondB.pos (by unfold shB; rw [decide_eq_false (fun e => e hb)]; rfl) (FA.mk (Ld.oi o1 rfl (CondB.ne (fun h0 => no fun hf => hf.bound.elim h0 fun e => e hb) fun h0 => p25 f1 f2 f3 (.inl h0))))
    · exact CondB.neg (by unfold shB; rw [decide_eq_true hb]; rfl) (p25 f1 f2 f3 (.inr hb))
  have p22 : ∀ (nc nn : Int), nc = (if c.k = 1 ∨ c.k = 9 then (c.vs.length : Int) else if c.k = 10 then (c.vs.length : Int) - 1 else 0) → nn = (if c.k = 9 then (c.vs.length : Int) else 0) → Z4.p22 (fun H' q => (q = true ↔ Formed c) ∧ Kp H H') (.ptr (some (b, 0))) (.ptr (some (b2, 0))) nc nn H2 := by
    intro nc nn hnc hnn
    unfold Z4.p22
    refine FA.mk (Ld.oc o1 rfl (LenS.of h2.rc ?_))
    rw [iRows_len]
    refine CondB.ne (fun hne => no fun hf => hne (by rw [hf.cs, hnc])) fun f1 => FA.mk (Ld.oc o1 rfl (LenS.of h2.rn ?_))
    rw [iRows_len]
    refine CondB.ne (fun hne => no fun hf => hne (by rw [hf.ns, hnn])) fun f2 => FA.mk (Ld.ob o2 rfl ?_)
    rw [hnc] at f1
    rw [hnn] at f2
    by_cases hr : c.k = 1 ∨ c.k = 10
    · exact CondB.neg (by unfold shR; rw [decide_eq_true hr]; rfl) (bnd f1 f2 (.inr hr))
    · refine CondB.pos (by unfold shR; rw [decide_eq_false hr]; rfl) (FA.mk (Ld.oi o1 rfl (CondB.ne (fun h0 => no fun hf => by have := hf.rel; omega) fun h0 => bnd f1 f2 (.inl h0))))
  have p16 : ∀ (nc : Int), nc = (if c.k = 1 ∨ c.k = 9 then (c.vs.length : Int) else if c.k = 10 then (c.vs.length : Int) - 1 else 0) → Z4.p16 (fun H' q => (q = true ↔ Formed c) ∧ Kp H H') (.ptr (some (b, 0))) (.ptr (some (b2, 0))) nc 0 H2 := by
    intro nc hnc
    unfold Z4.p16
    refine FA.mk (Ld.ob o2 rfl ?_)
    by_cases h9 : c.k = 9
    · refine CondB.pos (by unfold shN; rw [decide_eq_true h9]) (FA.mk (Ld.oc o1 rfl (LenS.of h2.rv ?_)))
      rw [iRows_len]
      exact p22 _ _ hnc (by rw [if_pos h9])
    · exact CondB.neg (by unfold shN; rw [decide_eq_false h9]) (p22 _ _ hnc (by rw [if_neg h9]))
  refine FA.mk (Ld.ob o2 rfl ?_)
  by_cases hc : c.k = 1 ∨ c.k = 9 ∨ c.k = 10
  · refine CondB.pos (by unfold shC; rw [decide_eq_true hc]) (FA.mk (Ld.oc o1 rfl (LenS.of h2.rv ?_)))
    rw [iRows_len]
    refine FA.mk (Ld.oi o1 rfl (CondB.eq (fun h10 => p16 _ ?_) fun h10 => p16 _ ?_))
    · rw [wrap64 (by omega) (by omega), if_neg (by omega), if_pos h10]
    · rw [if_pos (by omega)]
  · exact CondB.neg (by unfold shC; rw [decide_eq_false hc]) (p16 _ (by rw [if_neg (by omega), if_neg (by omega)]))
end Go.Proofs.YtkpjcnlljdccjaaGreat
end
section
namespace Go.Proofs.YtkpjcnlljdccjaaGreat
open Go.AI
set_option linter.unusedVariables false
theorem ranges_c {c : Cn} {sv sc sn st : AC} {l m : Int} {H : AHeap} (h : CIn H c sv sc sn st) :
    Fn.Z9 c.k sv sc sn c.rel c.bound st l m (shC c.k) (shN c.k) (shR c.k) (shB c.k) (shT c.k) H fun H' q => (q = true ↔ Ranged c) ∧ Kp H H' := by
  have llc := h.lc
  have lln := h.ln
  have llt := h.lt
  have lltt := h.ltt
  refine Z9.run ?_
  unfold Z9.W
  refine New.own fun b H1 hb hs1 o0 k1 => New.own fun b2 H2 hb2 hs2 o2 k2 => ?_
  have o1 := o0.kp k2
  have kk := k1.trans k2
  have h2 := h.kp kk
  have no : ∀ {H3 : AHeap}, Kp H2 H3 → ¬ Ranged c → ((false : Bool) = true ↔ Ranged c) ∧ Kp H H3 := fun k hn => ⟨⟨fun e => (by cases e), fun e => absurd e hn⟩, kk.trans k⟩
  have l62 : RelOk c → (∀ x ∈ c.cs, CoOk c x) → (∀ x ∈ c.ns, 0 ≤ x ∧ x ≤ 100000) → Z9.l62 (fun H' q => (q = true ↔ Ranged c) ∧ Kp H H') (.ptr (some (b, 0))) st (c.ts.length : Int) 0 H2 := by
    intro r1 r2 r3
    unfold Z9.l62
    refine LoopT.rule (fun m s0 H3 => ∃ i : Nat, i ≤ c.ts.length ∧ m = c.ts.length - i ∧ s0 = (.ptr (some (b, 0)), st, (c.ts.length : Int), (i : Int), ()) ∧ Kp H2 H3 ∧ ∀ t ∈ c.ts.take i, ∀ x ∈ t, -16384 ≤ x ∧ x ≤ 16384) c.ts.length ⟨0, by omega, by omega, rfl, Kp.refl _, fun t ht => by cases ht⟩ ?_
    rintro m s0 H3 back ⟨i, hi, rfl, rfl, k3, hall⟩ hback
    simp only [Z9.b62]
    have o3 := o1.kp k3
    refine CondB.dec (fun hlt => ?_) fun hge => ?_
    · have hil : i < c.ts.length := by omega
      obtain ⟨t, ht⟩ : ∃ b, c.ts[i]? = some b := ⟨_, List.getElem?_eq_getElem hil⟩
      have htl := lltt t (List.mem_of_getElem? ht)
      refine (h2.kp k3).rt.at (by omega) (by rw [Int.toNat_natCast]; exact ht) fun x hx => ?_
      refine Z27.run ?_
      unfold Z27.W
      refine RunT.imp ?_ (IndexFuncI_c (f := fun p => !(decide (-16384 ≤ p ∧ p ≤ 16384))) hx htl fun p H4 k4 => CVT.mk lt81 ?_)
      · rintro H4 (q : Int) ⟨k4, hq⟩
        have k34 := k3.trans k4
        refine CondB.mk (fun hc => no k34 fun hr => ?_) fun hc => ?_
        · obtain ⟨p, hp, he⟩ := hq.1 (@of_decide_eq_true _ _ hc)
          have := hr.ts t (List.mem_of_getElem? ht) p hp
          rw [decide_eq_true this] at he
          cases he
        · refine hback (c.ts.length - (i + 1)) _ _ (by omega) ⟨i + 1, by omega, rfl, ?_, k34, take_all ht hall fun p hp => ?_⟩
          · exact tc rfl (tc rfl (tc rfl (tc ((wrap64 (by omega) (by omega)).trans (by omega)) rfl)))
          · by_cases e : -16384 ≤ p ∧ p ≤ 16384
            · exact e
            · exact absurd (hq.2 ⟨p, hp, by rw [decide_eq_false e]; rfl⟩) (@of_decide_eq_false _ _ hc)
      · refine Z10.run ?_
        unfold Z10.W
        refine RunT.imp ?_ within_c
        rintro H5 (q : Bool) ⟨e5, hq⟩
        obtain rfl : H4 = H5 := e5.symm
        refine ⟨Kp.refl _, ?_⟩
        by_cases e : -16384 ≤ p ∧ p ≤ 16384
        · rw [decide_eq_true e, hq.2 e]
        · have : q = false := by
            cases hq' : q with
            | false => rfl
            | true => exact absurd (hq.1 hq') e
          rw [decide_eq_false e, this]
    · have hil : i = c.ts.length := by omega
      subst hil
      rw [List.take_length] at hall
      have kk3 := kk.trans k3
      have p104 : ∀ {lo hi : Int}, (lo ≤ c.bound ∧ c.bound ≤ hi ↔ BdOk c) → Z9.p104 (fun H' q => (q = true ↔ Ranged c) ∧ Kp H H') (.ptr (some (b, 0))) lo hi H3 := by
        intro lo hi hb
        unfold Z9.p104
        refine FA.mk (Ld.oi o3 rfl (CondB.dec (fun h1 => FA.mk (Ld.oi o3 rfl ⟨?_, kk3⟩)) fun h1 => no k3 fun hr => h1 (hb.2 hr.bound).1))
        rw [decide_eq_true_iff]
        exact ⟨fun e => ⟨r1, r2, r3, hall, hb.1 ⟨h1, e⟩⟩, fun hr => (hb.2 hr.bound).2⟩
      have p97 : (c.k = 2 ∨ c.k = 8) → Z9.p97 (fun H' q => (q = true ↔ Ranged c) ∧ Kp H H') (.ptr (some (b, 0))) (-1099511627776) 1099511627776 c.k true H3 := by
        intro hk
        unfold Z9.p97
        refine CondB.pos rfl (p104 ?_)
        unfold BdOk
        rw [if_neg (by omega), if_pos hk]
      refine FA.mk (Ld.oi o3 rfl (CondB.eq (fun h7 => p104 ?_) fun h7 => CondB.eq (fun h2 => p97 (.inl h2)) fun h2 => ?_))
      · unfold BdOk
        rw [if_pos h7]
      · by_cases h8 : c.k = 8
        · rw [show (c.k == 8) = true from by simpa using h8]
          exact p97 (.inr h8)
        · rw [show (c.k == 8) = false from by simpa using h8]
          unfold Z9.p97
          refine CondB.neg rfl (CondB.eq (fun h9 => p104 ?_) fun h9 => p104 ?_)
          · unfold BdOk
            rw [if_neg h7, if_neg (by omega), if_pos h9]
          · unfold BdOk
            rw [if_neg h7, if_neg (by omega), if_neg h9]
  have l39 : RelOk c → (∀ x ∈ c.cs, CoOk c x) → Z9.l39 (fun H' q => (q = true ↔ Ranged c) ∧ Kp H H') (.ptr (some (b, 0))) sn (c.ns.length : Int) 0 H2 := by
    intro r1 r2
    unfold Z9.l39
    refine LoopT.rule (fun m s0 H3 => ∃ i : Nat, i ≤ c.ns.length ∧ m = c.ns.length - i ∧ s0 = (.ptr (some (b, 0)), sn, (c.ns.length : Int), (i : Int), ()) ∧ H3 = H2 ∧ ∀ x ∈ c.ns.take i, 0 ≤ x ∧ x ≤ 100000) c.ns.length ⟨0, by omega, by omega, rfl, rfl, fun t ht => by cases ht⟩ ?_
    rintro m s0 H3 back ⟨i, hi, rfl, rfl, rfl, hall⟩ hback
    simp only [Z9.b39]
    refine CondB.dec (fun hlt => ?_) fun hge => ?_
    · have hil : i < c.ns.length := by omega
      obtain ⟨u, hu⟩ : ∃ b, c.ns[i]? = some b := ⟨_, List.getElem?_eq_getElem hil⟩
      have ng : ¬ (0 ≤ u ∧ u ≤ 100000) → Z9.p52 (fun H' q => (q = true ↔ Ranged c) ∧ Kp H H') back (.ptr (some (b, 0))) sn (c.ns.length : Int) (i : Int) true H3 := by
        intro hn
        unfold Z9.p52
        exact CondB.pos rfl (no (Kp.refl _) fun hr => hn (hr.ns u (List.mem_of_getElem? hu)))
      refine IA.of h2.rn (by omega) (by rw [Int.toNat_natCast]; exact iRow_at hu) fun b o hld => ldRow hld ?_
      refine CondB.dec (fun hc => ng (by omega)) fun hc => ?_
      by_cases hc2 : 100000 < u
      · rw [decide_eq_true (show u > 100000 from hc2)]
        exact ng (by omega)
      · rw [decide_eq_false (show ¬ u > 100000 from hc2)]
        unfold Z9.p52
        refine CondB.neg rfl (hback (c.ns.length - (i + 1)) _ _ (by omega) ⟨i + 1, by omega, rfl, ?_, rfl, take_all hu hall ⟨by omega, by omega⟩⟩)
        exact tc rfl (tc rfl (tc rfl (tc ((wrap64 (by omega) (by omega)).trans (by omega)) rfl)))
    · have hil : i = c.ns.length := by omega
      subst hil
      rw [List.take_length] at hall
      exact FA.mk (Ld.oc o1 rfl (h2.rt.len (l62 r1 r2 hall)))
  have p5 : RelOk c → Z9.p5 (fun H' q => (q = true ↔ Ranged c) ∧ Kp H H') (.ptr (some (b, 0))) false H2 := by
    intro r1
    unfold Z9.p5
    refine CondB.neg rfl (FA.mk (Ld.oc o1 rfl (LenS.of h2.rc ?_)))
    rw [iRows_len]
    unfold Z9.l14
    refine LoopT.rule (fun m s0 H3 => ∃ i : Nat, i ≤ c.cs.length ∧ m = c.cs.length - i ∧ s0 = (.ptr (some (b, 0)), sc, (c.cs.length : Int), (i : Int), ()) ∧ H3 = H2 ∧ ∀ x ∈ c.cs.take i, CoOk c x) c.cs.length ⟨0, by omega, by omega, rfl, rfl, fun t ht => by cases ht⟩ ?_
    rintro m s0 H3 back ⟨i, hi, rfl, rfl, rfl, hall⟩ hback
    simp only [Z9.b14]
    refine CondB.dec (fun hlt => ?_) fun hge => ?_
    · have hil : i < c.cs.length := by omega
      obtain ⟨u, hu⟩ : ∃ b, c.cs[i]? = some b := ⟨_, List.getElem?_eq_getElem hil⟩
      have ng : ¬ CoOk c u → Z9.p29 (fun H' q => (q = true ↔ Ranged c) ∧ Kp H H') back (.ptr (some (b, 0))) sc (c.cs.length : Int) (i : Int) true H3 := by
        intro hn
        unfold Z9.p29
        exact CondB.pos rfl (no (Kp.refl _) fun hr => hn (hr.cs u (List.mem_of_getElem? hu)))
      have yes : CoOk c u → Z9.p29 (fun H' q => (q = true ↔ Ranged c) ∧ Kp H H') back (.ptr (some (b, 0))) sc (c.cs.length : Int) (i : Int) false H3 := by
        intro hy
        unfold Z9.p29
        refine CondB.neg rfl (hback (c.cs.length - (i + 1)) _ _ (by omega) ⟨i + 1, by omega, rfl, ?_, rfl, take_all hu hall hy⟩)
        exact tc rfl (tc rfl (tc rfl (tc ((wrap64 (by omega) (by omega)).trans (by omega)) rfl)))
      have p27 : ∀ (z : Bool), z = decide (u = 0 ∧ c.k ≠ 9) → Z9.p27 (fun H' q => (q = true ↔ Ranged c) ∧ Kp H H') back (.ptr (some (b, 0))) u z sc (c.cs.length : Int) (i : Int) H3 := by
        intro z hz
        unfold Z9.p27
        refine CondB.dec (fun hc => ng fun ⟨a, _⟩ => by omega) fun hc1 => CondB.dec (fun hc => ng fun ⟨_, a, _⟩ => by omega) fun hc2 => CondB.mk (fun hc => ng fun ⟨_, _, _, a⟩ => ?_) fun hc3 => ?_
        · rw [hz] at hc
          have := of_decide_eq_true hc
          exact a this.2 this.1
        · rw [hz] at hc3
          have hnz := of_decide_eq_false hc3
          have hz9 : c.k ≠ 9 → u ≠ 0 := fun a e => hnz ⟨e, a⟩
          refine CondB.dec (fun hneg => FA.mk (Ld.oi o1 rfl ?_)) fun hneg => yes ⟨by omega, by omega, fun _ => by omega, hz9⟩
          by_cases h9 : c.k = 9
          · rw [show (c.k == 9) = true from by simpa using h9]
            exact ng fun ⟨_, _, a, _⟩ => by have := a h9; omega
          · rw [show (c.k == 9) = false from by simpa using h9]
            exact yes ⟨by omega, by omega, fun e => absurd e h9, hz9⟩
      refine IA.of h2.rc (by omega) (by rw [Int.toNat_natCast]; exact iRow_at hu) fun b' o hld => ldRow hld ?_
      refine CondB.eq (fun hz => FA.mk (Ld.oi o1 rfl (p27 _ ?_))) fun hz => p27 _ ?_
      · by_cases h9 : c.k = 9
        · rw [decide_eq_false (fun e => e.2 h9), h9]; rfl
        · rw [decide_eq_true ⟨hz, h9⟩]
          exact bne_iff_ne.2 h9
      · rw [decide_eq_false (fun e => hz e.1)]
    · have hil : i = c.cs.length := by omega
      subst hil
      rw [List.take_length] at hall
      refine FA.mk (Ld.oc o1 rfl (LenS.of h2.rn ?_))
      rw [iRows_len]
      exact l39 r1 hall
  refine FA.mk (Ld.ob o2 rfl ?_)
  by_cases hr : c.k = 1 ∨ c.k = 10
  · refine CondB.pos (by unfold shR; rw [decide_eq_true hr]) (FA.mk (Ld.oi o1 rfl (CondB.ne (fun g1 => FA.mk (Ld.oi o1 rfl (CondB.ne (fun g3 => FA.mk (Ld.oi o1 rfl ?_)) fun g3 => p5 fun _ => .inr (.inl g3)))) fun g1 => p5 fun _ => .inl g1)))
    by_cases g4 : c.rel = 4
    · rw [show (c.rel != 4) = false from by rw [g4]; rfl]
      exact p5 fun _ => .inr (.inr g4)
    · rw [show (c.rel != 4) = true from by simpa using g4]
      unfold Z9.p5
      exact CondB.pos rfl (no (Kp.refl _) fun h => by have := h.rel hr; omega)
  · exact CondB.neg (by unfold shR; rw [decide_eq_false hr]) (p5 fun h => absurd h hr)
end Go.Proofs.YtkpjcnlljdccjaaGreat
end
section
namespace Go.Proofs.YtkpjcnlljdccjaaGreat
open Go.AI
set_option linter.unusedVariables false
theorem pre_slice {H : AHeap} {s : AC} {l : List Int} {i : Nat} (hs : SlR H s 1 (iRows l)) (hi : i < l.length) : ∃ r, sliceA 1 s none (some (i : Int)) = some r ∧ SlR H r 1 (iRows (l.take i)) := by
  obtain ⟨a, z, cap, rfl, hr⟩ := hs.ex
  have h0 : 0 < (iRows l).length := by rw [iRows_len]; omega
  obtain ⟨rfl, b, o, rfl, _⟩ := hr 0 _ (List.getElem?_eq_getElem h0)
  refine ⟨.sl (some (b, o + 0 * 1)) 1 (((i : Int)).toNat - 0) (cap.map (· - 0)), ?_, ?_⟩
  · simp only [sliceA]
    rw [if_pos ⟨.inr trivial, by simp, by simp, by simp only [Option.getD_some]; rw [iRows_len]; omega⟩]
    rfl
  refine ⟨_, 1, _, by rw [iRows_len, List.length_take, Nat.min_eq_left (by omega), Int.toNat_natCast, Nat.sub_zero], fun j r hj => ?_⟩
  have hj' : (iRows l)[j]? = some r := by
    unfold iRows at hj ⊢
    rw [List.getElem?_map, List.getElem?_take] at hj
    split at hj
    · rw [List.getElem?_map]; exact hj
    · simp at hj
  obtain ⟨_, b', o', e, hl⟩ := hr j r hj'
  cases e
  exact ⟨rfl, b, o, by simp, hl⟩
theorem arity_sh {k : Int} {n : Nat} (h : 1 ≤ k ∧ k ≤ 10) : arityOk k n ↔ shLeast k ≤ (n : Int) ∧ (n : Int) ≤ shMost k := by
  have hk : k = 1 ∨ k = 2 ∨ k = 3 ∨ k = 4 ∨ k = 5 ∨ k = 6 ∨ k = 7 ∨ k = 8 ∨ k = 9 ∨ k = 10 := by omega
  rcases hk with rfl | rfl | rfl | rfl | rfl | rfl | rfl | rfl | rfl | rfl <;> simp [arityOk, shLeast, shMost] <;> omega
theorem CheckConstraint_c {c : Cn} {vars : Int} {sv sc sn st : AC} {H : AHeap} (h : CIn H c sv sc sn st) : Fn.Z0 c.k sv sc sn c.rel c.bound st vars H fun H' q => q = cFault c vars ∧ Kp H H' := by
  have llv := h.lv
  refine Z0.run ?_
  unfold Z0.W
  refine New.own fun b H1 hb hs1 o0 k1 => FA.mk (Ld.oi o0 rfl (RunT.imp ?_ shapeOf_c))
  rintro H2 (l : Int) (m : Int) (bc : Bool) (bn : Bool) (br : Bool) (bb : Bool) (bt : Bool) (is : Bool) ⟨k2, hsh⟩
  refine New.own fun b2 H3 hb2 hs3 o20 k3 => ?_
  refine Sto.own o20 (Nat.le_refl 7) fun H4 o2 k4 hs4 => ?_
  have k13 := (k1.trans k2).trans k3
  have hz1 := k1.size
  have hz2 := (k1.trans k2).size
  have k14 : Kp H H4 := k13.fresh k4 fun y e => by have e' : y = b2 := e; omega
  have hb1 := o0.lt
  have hz12 := k2.size
  have o1 : Own H4 b (cnCells c sv sc sn st) := ((o0.kp k2).kp k3).keep k4 (show ¬ b = b2 by omega)
  have h4 := h.kp k14
  rcases hsh with ⟨rfl, hbad⟩ | ⟨rfl, hk1, hk10, rfl, rfl, rfl, rfl, rfl, rfl, rfl⟩
  · exact CondB.pos rfl ⟨(cF7 hbad).symm, k14⟩
  have hkk : ¬ (c.k < 1 ∨ 10 < c.k) := by omega
  have hsh := arity_sh (n := c.vs.length) ⟨hk1, hk10⟩
  have p15 : ¬ arityOk c.k c.vs.length → Z0.p15 (fun H' q => q = cFault c vars ∧ Kp H H') vars (.ptr (some (b, 0))) (.ptr (some (b2, 0))) true H4 := by
    intro hn
    unfold Z0.p15
    exact CondB.pos rfl ⟨(cF3 hkk hn).symm, k14⟩
  refine CondB.neg rfl (FA.mk (Ld.oc o1 rfl (LenS.of h4.rv ?_)))
  rw [iRows_len]
  refine FA.mk (Ld.oi o2 rfl (CondB.dec (fun hc => p15 fun ha => by have := hsh.1 ha; omega) fun hc => FA.mk (Ld.oc o1 rfl (LenS.of h4.rv ?_))))
  rw [iRows_len]
  refine FA.mk (Ld.oi o2 rfl ?_)
  by_cases hc2 : (c.vs.length : Int) > shMost c.k
  · rw [decide_eq_true hc2]
    exact p15 fun ha => by have := hsh.1 ha; omega
  rw [decide_eq_false hc2]
  have har : arityOk c.k c.vs.length := hsh.2 ⟨by omega, by omega⟩
  have hv1 : 1 ≤ c.vs.length := by
    have : 1 ≤ shLeast c.k := by unfold shLeast; split; omega; split <;> omega
    omega
  unfold Z0.p15
  refine CondB.neg rfl (FA.mk (Ld.oc o1 rfl (LenS.of h4.rv ?_)))
  rw [iRows_len]
  unfold Z0.l24
  refine LoopT.rule (fun m s0 H5 => ∃ i : Nat, i ≤ c.vs.length ∧ m = c.vs.length - i ∧ s0 = (vars, .ptr (some (b, 0)), .ptr (some (b2, 0)), sv, (c.vs.length : Int), (i : Int), ()) ∧ H5 = H4 ∧ scanV c.k vars [] c.vs = scanV c.k vars (c.vs.take i) (c.vs.drop i)) c.vs.length ⟨0, by omega, by omega, rfl, rfl, rfl⟩ ?_
  rintro m s0 H5 back ⟨i, hi, rfl, rfl, rfl, hscan⟩ hback
  simp only [Z0.b24]
  refine CondB.dec (fun hlt => ?_) fun hge => ?_
  · have hil : i < c.vs.length := by omega
    obtain ⟨u, hu⟩ : ∃ b, c.vs[i]? = some b := ⟨_, List.getElem?_eq_getElem hil⟩
    have hat := scanV_at (k := c.k) (vars := vars) hu
    rw [← hscan] at hat
    have bad : (u < 0 ∨ vars ≤ u) → Z0.p38 (fun H' q => q = cFault c vars ∧ Kp H H') back vars (.ptr (some (b, 0))) (.ptr (some (b2, 0))) (i : Int) u sv (c.vs.length : Int) (i : Int) true H5 := by
      intro hc
      unfold Z0.p38
      rw [if_pos hc] at hat
      exact CondB.pos rfl ⟨by rw [cFs hkk har (by omega), hat], k14⟩
    refine IA.of h4.rv (by omega) (by rw [Int.toNat_natCast]; exact iRow_at hu) fun b' o hld => ldRow hld ?_
    refine CondB.dec (fun hc => bad (.inl hc)) fun hc0 => ?_
    by_cases hcv : vars ≤ u
    · rw [decide_eq_true (show u ≥ vars from hcv)]
      exact bad (.inr hcv)
    rw [decide_eq_false (show ¬ u ≥ vars from hcv)]
    rw [if_neg (by omega)] at hat
    have on : ¬ (u ∈ c.vs.take i ∧ ¬ (c.k = 6 ∧ i = 1)) → Z0.p45 (fun H' q => q = cFault c vars ∧ Kp H H') back vars (.ptr (some (b, 0))) (.ptr (some (b2, 0))) sv (c.vs.length : Int) (i : Int) false H5 := by
      intro hx
      rw [if_neg hx] at hat
      unfold Z0.p45
      refine CondB.neg rfl (hback (c.vs.length - (i + 1)) _ _ (by omega) ⟨i + 1, by omega, rfl, ?_, rfl, hat⟩)
      exact tc rfl (tc rfl (tc rfl (tc rfl (tc rfl (tc ((wrap64 (by omega) (by omega)).trans (by omega)) rfl)))))
    have off : (u ∈ c.vs.take i ∧ ¬ (c.k = 6 ∧ i = 1)) → Z0.p45 (fun H' q => q = cFault c vars ∧ Kp H H') back vars (.ptr (some (b, 0))) (.ptr (some (b2, 0))) sv (c.vs.length : Int) (i : Int) true H5 := by
      intro hx
      rw [if_pos hx] at hat
      unfold Z0.p45
      exact CondB.pos rfl ⟨by rw [cFs hkk har (by omega), hat], k14⟩
    unfold Z0.p38
    obtain ⟨r, hr, hrs⟩ := pre_slice h4.rv hil
    refine CondB.neg rfl (FA.mk (Ld.oc o1 rfl (Slc.mk hr (RunT.imp ?_ (ContainsI_c (v := u) hrs (by rw [List.length_take]; omega))))))
    rintro H6 (q : Bool) ⟨e6, hq⟩
    obtain rfl : H5 = H6 := e6.symm
    refine CondB.mk (fun hc => FA.mk (Ld.oi o1 rfl (CondB.eq (fun h6 => ?_) fun h6 => off ⟨hq.1 hc, fun e => h6 e.1⟩))) fun hc => on fun e => by rw [hq.2 e.1] at hc; cases hc
    by_cases hi1 : i = 1
    · rw [show (!((i : Int) == 1)) = false from by rw [hi1]; rfl]
      exact on fun e => e.2 ⟨h6, hi1⟩
    · rw [show (!((i : Int) == 1)) = true from by simp; omega]
      exact off ⟨hq.1 hc, fun e => hi1 e.2⟩
  · have hil : i = c.vs.length := by omega
    subst hil
    rw [List.take_length, List.drop_length] at hscan
    have hz : scanV c.k vars [] c.vs = 0 := hscan
    obtain ⟨g1, g2, g3, g4⟩ := cFr hkk har hz
    refine Ld.o7 o1 c.k sv sc sn c.rel c.bound st rfl (Ld.o7 o2 (shLeast c.k) (shMost c.k) (shC c.k) (shN c.k) (shR c.k) (shB c.k) (shT c.k) rfl (RunT.imp ?_ (form_c h4 hv1 ⟨hk1, hk10⟩)))
    rintro H6 (q : Bool) ⟨hq4, k6⟩
    have k16 := k14.trans k6
    have o16 := o1.kp k6
    have o26 := o2.kp k6
    refine CondB.mk (fun hn => ?_) fun hy => ?_
    · exact ⟨(g1 fun hc => by rw [hq4.2 hc] at hn; cases hn).symm, k16⟩
    have hfm := hq4.1 (by cases q <;> simp_all)
    refine FA.mk (Ld.oc o16 rfl ((h.kp k16).rt.len ?_))
    refine CondB.dec (fun hc => ⟨(g2 hfm (by omega)).symm, k16⟩) fun hc => ?_
    have hcn : ¬ 200 < c.ts.length := by omega
    refine Ld.o7 o16 c.k sv sc sn c.rel c.bound st rfl (Ld.o7 o26 (shLeast c.k) (shMost c.k) (shC c.k) (shN c.k) (shR c.k) (shB c.k) (shT c.k) rfl (RunT.imp ?_ (ranges_c (h.kp k16))))
    rintro H7 (q : Bool) ⟨hq5, k7⟩
    have k17 := k16.trans k7
    refine CondB.mk (fun hn => ?_) fun hy => ?_
    · exact ⟨(g3 hfm hcn fun hc => by rw [hq5.2 hc] at hn; cases hn).symm, k17⟩
    · exact ⟨(g4 hfm hcn (hq5.1 (by cases q <;> simp_all))).symm, k17⟩
end Go.Proofs.YtkpjcnlljdccjaaGreat
end
section
namespace Go.AI
open Go.Lib
def sumN (cs xs : List Int) : Nat → Int
  | 0 => 0
  | i + 1 => IntKind.wrap .i64 (sumN cs xs i + IntKind.wrap .i64 (cs.getD i 0 * xs.getD i 0))
def loadN (t : Int) (xs cs ns : List Int) : Nat → Int
  | 0 => 0
  | i + 1 => if xs.getD i 0 ≤ t ∧ t < IntKind.wrap .i64 (xs.getD i 0 + cs.getD i 0) then IntKind.wrap .i64 (loadN t xs cs ns i + ns.getD i 0) else loadN t xs cs ns i
def relB (s rel bound : Int) : Bool := if rel = 1 then decide (s ≤ bound) else if rel = 3 then s == bound else s != bound
def holdsP (c : Cn) (x : List Int) : Prop :=
  if c.k = 1 then relB (sumN c.cs x x.length) c.rel c.bound = true
  else if c.k = 2 then x.getD 0 0 = IntKind.wrap .i64 (x.getD 1 0 + c.bound)
  else if c.k = 3 then x.Nodup
  else if c.k = 4 then 0 ≤ x.getD 0 0 ∧ x.getD 0 0 ≤ (x.length : Int) - 3 ∧ x.getD (2 + (x.getD 0 0).toNat) 0 = x.getD 1 0
  else if c.k = 5 then x ∈ c.ts
  else if c.k = 6 then IntKind.wrap .i64 (x.getD 0 0 * x.getD 1 0) = x.getD 2 0
  else if c.k = 7 then x.getD 0 0 = if c.bound = 0 then minOf (x.drop 1) else maxOf (x.drop 1)
  else if c.k = 8 then x.getD 0 0 = ((x.drop 1).count c.bound : Int)
  else if c.k = 9 then ∀ t ∈ x, ¬ c.bound < loadN t x c.cs c.ns x.length
  else (x.getD 0 0 = 1 ∧ relB (sumN c.cs (x.drop 1) (x.length - 1)) c.rel c.bound = true) ∨ (x.getD 0 0 = 0 ∧ relB (sumN c.cs (x.drop 1) (x.length - 1)) c.rel c.bound = false)
theorem getD_at {l : List Int} {i : Nat} {v : Int} (h : l[i]? = some v) : l.getD i 0 = v := by
  rw [List.getD_eq_getElem?_getD, h]; rfl
theorem at_getD {l : List Int} {i : Nat} (h : i < l.length) : l[i]? = some (l.getD i 0) := by
  rw [List.getD_eq_getElem?_getD, List.getElem?_eq_getElem h]; rfl
theorem getD_drop1 (l : List Int) (i : Nat) : (l.drop 1).getD i 0 = l.getD (i + 1) 0 := by
  rw [List.getD_eq_getElem?_getD, List.getD_eq_getElem?_getD, List.getElem?_drop, Nat.add_comm]
end Go.AI
end
section
namespace Go.Proofs.YtkpjcnlljdccjaaGreat
open Go.AI
set_option linter.unusedVariables false
theorem compared_c {s rel bound : Int} {H : AHeap} : Fn.Z3 s rel bound H fun H' q => H' = H ∧ q = relB s rel bound := by
  refine Z3.run ?_
  unfold Z3.W relB
  refine CondB.eq (fun h => ⟨rfl, by rw [if_pos h]⟩) fun h1 => CondB.eq (fun h => ⟨rfl, by rw [if_neg h1, if_pos h]⟩) fun h3 => ⟨rfl, by rw [if_neg h1, if_neg h3]⟩
theorem related_c {s rel bound : Int} {H : AHeap} : Fn.Z24 s rel bound H fun H' q => H' = H ∧ q = relB s rel bound := by
  refine Z24.run ?_
  unfold Z24.W relB
  refine CondB.eq (fun h => ⟨rfl, by rw [if_pos h]⟩) fun h1 => CondB.eq (fun h => ⟨rfl, by rw [if_neg h1, if_pos h]⟩) fun h3 => ⟨rfl, by rw [if_neg h1, if_neg h3]⟩
theorem rdI {H : AHeap} {s : AC} {l : List Int} {i : Nat} {k : Int → Prop} (hs : SlR H s 1 (iRows l)) (hi : i < l.length) (q : k (l.getD i 0)) : IA 1 s (i : Int) fun p => Ld [.int .i64] H p fun (x : Int) => k x :=
  IA.of hs (by omega) (by rw [Int.toNat_natCast]; exact iRow_at (at_getD hi)) fun b o hld => ldRow hld q
theorem sum_c {sc sx : AC} {cs xs : List Int} {H : AHeap} (hc : SlR H sc 1 (iRows cs)) (hx : SlR H sx 1 (iRows xs)) (hl : cs.length ≤ xs.length) (h64 : cs.length ≤ 100) :
    Fn.Z12 sc sx H fun H' q => H' = H ∧ q = sumN cs xs cs.length := by
  refine Z12.run ?_
  unfold Z12.W
  refine LenS.of hc ?_
  rw [iRows_len]
  unfold Z12.l8
  refine LoopT.rule (fun m s0 H2 => ∃ i : Nat, i ≤ cs.length ∧ m = cs.length - i ∧ s0 = (sx, sumN cs xs i, sc, (cs.length : Int), (i : Int), ()) ∧ H2 = H) cs.length ⟨0, by omega, by omega, rfl, rfl⟩ ?_
  rintro m s0 H2 back ⟨i, hi, rfl, rfl, rfl⟩ hback
  simp only [Z12.b8]
  refine CondB.dec (fun hlt => ?_) fun hge => ?_
  · have hil : i < cs.length := by omega
    refine rdI hc hil (rdI hx (by omega) (hback (cs.length - (i + 1)) _ _ (by omega) ⟨i + 1, by omega, rfl, ?_, rfl⟩))
    exact tc rfl (tc rfl (tc rfl (tc rfl (tc ((wrap64 (by omega) (by omega)).trans (by omega)) rfl))))
  · have hil : i = cs.length := by omega
    subst hil
    exact ⟨by trivial, by trivial⟩
theorem Equal_c {sa sb : AC} {a b : List Int} {H : AHeap} (ha : SlR H sa 1 (iRows a)) (hb : SlR H sb 1 (iRows b)) (h64 : a.length ≤ 9223372036854775807) :
    Fn.Z30 sa sb H fun H' q => H' = H ∧ (q = true ↔ a = b) := by
  refine Z30.run ?_
  unfold Z30.W
  refine LenS.of ha (LenS.of hb ?_)
  rw [iRows_len, iRows_len]
  refine CondB.ne (fun hne => ⟨rfl, ?_⟩) fun he => LenS.of ha ?_
  · constructor
    · intro e; cases e
    · rintro rfl; exact absurd rfl hne
  rw [iRows_len]
  unfold Z30.l14
  refine LoopT.rule (fun m s0 H2 => ∃ i : Nat, i ≤ a.length ∧ m = a.length - i ∧ s0 = (sa, sb, (a.length : Int), (i : Int), ()) ∧ H2 = H ∧ a.take i = b.take i) a.length ⟨0, by omega, by omega, rfl, rfl, by simp⟩ ?_
  rintro m s0 H2 back ⟨i, hi, rfl, rfl, rfl, hpre⟩ hback
  simp only [Z30.b14]
  refine CondB.dec (fun hlt => ?_) fun hge => ?_
  · have hil : i < a.length := by omega
    refine rdI ha hil (rdI hb (by omega) ?_)
    refine CondB.ne (fun hne => ⟨trivial, ?_⟩) fun heq => ?_
    · constructor
      · intro e; cases e
      · rintro rfl; exact absurd rfl hne
    · refine hback (a.length - (i + 1)) _ _ (by omega) ⟨i + 1, by omega, rfl, ?_, rfl, ?_⟩
      · exact tc rfl (tc rfl (tc rfl (tc ((wrap64 (by omega) (by omega)).trans (by omega)) rfl)))
      · rw [List.take_add_one, List.take_add_one, hpre, at_getD hil, at_getD (show i < b.length by omega), heq]
  · have hil : i = a.length := by omega
    subst hil
    rw [List.take_length, List.take_of_length_le (by omega)] at hpre
    exact ⟨trivial, fun _ => hpre, fun _ => by trivial⟩
end Go.Proofs.YtkpjcnlljdccjaaGreat
end
section
namespace Go.Proofs.YtkpjcnlljdccjaaGreat
open Go.AI
set_option linter.unusedVariables false
theorem loads_c {c : Cn} {x : List Int} {sv sc sn st sx : AC} {H : AHeap} (h : CIn H c sv sc sn st) (hx : SlR H sx 1 (iRows x)) (hl : x.length ≤ 100) (hc : c.cs.length = x.length) (hn : c.ns.length = x.length) :
    Fn.Z8 c.k sv sc sn c.rel c.bound st sx H fun H' q => (q = true ↔ ∀ t ∈ x, ¬ c.bound < loadN t x c.cs c.ns x.length) ∧ Kp H H' := by
  refine Z8.run ?_
  unfold Z8.W
  refine New.own fun b H1 hb hs1 o1 k1 => LenS.of (hx.kp k1) ?_
  rw [iRows_len]
  have h1 := h.kp k1
  have hx1 := hx.kp k1
  unfold Z8.l6
  refine LoopT.rule (fun m s0 H2 => ∃ i : Nat, i ≤ x.length ∧ m = x.length - i ∧ s0 = (sx, .ptr (some (b, 0)), sx, (x.length : Int), (i : Int), ()) ∧ H2 = H1 ∧ ∀ t ∈ x.take i, ¬ c.bound < loadN t x c.cs c.ns x.length) x.length ⟨0, by omega, by omega, rfl, rfl, fun t ht => by cases ht⟩ ?_
  rintro m s0 H2 back ⟨i, hi, rfl, rfl, rfl, hall⟩ hback
  simp only [Z8.b6]
  refine CondB.dec (fun hlt => ?_) fun hge => ?_
  rotate_left
  · have hil : i = x.length := by omega
    subst hil
    rw [List.take_length] at hall
    exact ⟨⟨fun _ => hall, fun _ => by trivial⟩, k1⟩
  have hil : i < x.length := by omega
  refine rdI hx1 hil (LenS.of hx1 ?_)
  rw [iRows_len]
  have hat := at_getD hil
  obtain ⟨t, ht⟩ : ∃ t, t = x.getD i 0 := ⟨_, rfl⟩
  rw [← ht] at hat ⊢
  unfold Z8.l23
  refine LoopT.rule (fun m s0 H3 => ∃ j : Nat, j ≤ x.length ∧ m = x.length - j ∧ s0 = (sx, .ptr (some (b, 0)), t, loadN t x c.cs c.ns j, sx, (x.length : Int), (i : Int), sx, (x.length : Int), (j : Int), ()) ∧ H3 = H2) x.length ⟨0, by omega, by omega, rfl, rfl⟩ ?_
  rintro m s0 H3 back2 ⟨j, hj, rfl, rfl, rfl⟩ hback2
  simp only [Z8.b23]
  refine CondB.dec (fun hlt => ?_) fun hge => ?_
  · have hjl : j < x.length := by omega
    have ej : IntKind.wrap .i64 ((j : Int) + 1) = ((j + 1 : Nat) : Int) := (wrap64 (by omega) (by omega)).trans (by omega)
    have no : ¬ (x.getD j 0 ≤ t ∧ t < IntKind.wrap .i64 (x.getD j 0 + c.cs.getD j 0)) → Z8.p36 (fun H' q => (q = true ↔ ∀ t ∈ x, ¬ c.bound < loadN t x c.cs c.ns x.length) ∧ Kp H H') back back2 sx (.ptr (some (b, 0))) t (loadN t x c.cs c.ns j) (j : Int) sx (x.length : Int) (i : Int) sx (x.length : Int) (j : Int) false H3 := by
      intro hno
      unfold Z8.p36
      refine CondB.neg rfl (hback2 (x.length - (j + 1)) _ _ (by omega) ⟨j + 1, by omega, rfl, ?_, rfl⟩)
      refine tc rfl (tc rfl (tc rfl (tc ?_ (tc rfl (tc rfl (tc rfl (tc rfl (tc rfl (tc ej rfl)))))))))
      show loadN t x c.cs c.ns j = loadN t x c.cs c.ns (j + 1)
      rw [loadN, if_neg hno]
    refine rdI hx1 hjl (CondB.dec (fun h1' => ?_) fun h1' => no fun e => h1' e.1)
    refine FA.mk (Ld.oc o1 rfl (rdI h1.rc (by omega) ?_))
    by_cases h2 : t < IntKind.wrap .i64 (x.getD j 0 + c.cs.getD j 0)
    · rw [decide_eq_true h2]
      unfold Z8.p36
      refine CondB.pos rfl (FA.mk (Ld.oc o1 rfl (rdI h1.rn (by omega) (hback2 (x.length - (j + 1)) _ _ (by omega) ⟨j + 1, by omega, rfl, ?_, rfl⟩))))
      refine tc rfl (tc rfl (tc rfl (tc ?_ (tc rfl (tc rfl (tc rfl (tc rfl (tc rfl (tc ej rfl)))))))))
      show IntKind.wrap .i64 (loadN t x c.cs c.ns j + c.ns.getD j 0) = loadN t x c.cs c.ns (j + 1)
      rw [loadN, if_pos ⟨h1', h2⟩]
    · rw [decide_eq_false h2]
      exact no fun e => h2 e.2
  · have hjl : j = x.length := by omega
    subst hjl
    refine FA.mk (Ld.oi o1 rfl (CondB.dec (fun hbig => ⟨⟨fun e => (by cases e), fun e => ?_⟩, k1⟩) fun hsm => ?_))
    · exact absurd hbig (e t (List.mem_of_getElem? hat))
    · refine hback (x.length - (i + 1)) _ _ (by omega) ⟨i + 1, by omega, rfl, ?_, rfl, take_all hat hall hsm⟩
      exact tc rfl (tc rfl (tc rfl (tc rfl (tc ((wrap64 (by omega) (by omega)).trans (by omega)) rfl))))
theorem fits5_c {c : Cn} {x : List Int} {sv sc sn st sx : AC} {H : AHeap} (h : CIn H c sv sc sn st) (hx : SlR H sx 1 (iRows x)) (hl : x.length ≤ 100) (hc : c.cs.length = x.length) (hn : c.ns.length = x.length) :
    Fn.Z20 c.k sv sc sn c.rel c.bound st sx H fun H' q => (q = true ↔ ∀ t ∈ x, ¬ c.bound < loadN t x c.cs c.ns x.length) ∧ Kp H H' := by
  refine Z20.run ?_
  unfold Z20.W
  refine New.own fun b H1 hb hs1 o1 k1 => ?_
  have h1 := h.kp k1
  have hx1 := hx.kp k1
  unfold Z20.l6
  refine LoopT.rule (fun m s0 H2 => ∃ i : Nat, i ≤ x.length ∧ m = x.length - i ∧ s0 = (sx, .ptr (some (b, 0)), (i : Int), ()) ∧ H2 = H1 ∧ ∀ t ∈ x.take i, ¬ c.bound < loadN t x c.cs c.ns x.length) x.length ⟨0, by omega, by omega, rfl, rfl, fun t ht => by cases ht⟩ ?_
  rintro m s0 H2 back ⟨i, hi, rfl, rfl, rfl, hall⟩ hback
  simp only [Z20.b6]
  refine LenS.of hx1 ?_
  rw [iRows_len]
  refine CondB.dec (fun hlt => ?_) fun hge => ?_
  rotate_left
  · have hil : i = x.length := by omega
    subst hil
    rw [List.take_length] at hall
    exact ⟨⟨fun _ => hall, fun _ => by trivial⟩, k1⟩
  have hil : i < x.length := by omega
  refine rdI hx1 hil ?_
  have hat := at_getD hil
  obtain ⟨t, ht⟩ : ∃ t, t = x.getD i 0 := ⟨_, rfl⟩
  rw [← ht] at hat ⊢
  unfold Z20.l23
  refine LoopT.rule (fun m s0 H3 => ∃ j : Nat, j ≤ x.length ∧ m = x.length - j ∧ s0 = (sx, .ptr (some (b, 0)), (i : Int), t, loadN t x c.cs c.ns j, (j : Int), ()) ∧ H3 = H2) x.length ⟨0, by omega, by omega, rfl, rfl⟩ ?_
  rintro m s0 H3 back2 ⟨j, hj, rfl, rfl, rfl⟩ hback2
  simp only [Z20.b23]
  refine LenS.of hx1 ?_
  rw [iRows_len]
  refine CondB.dec (fun hlt => ?_) fun hge => ?_
  · have hjl : j < x.length := by omega
    have ej : IntKind.wrap .i64 ((j : Int) + 1) = ((j + 1 : Nat) : Int) := (wrap64 (by omega) (by omega)).trans (by omega)
    have no : ¬ (x.getD j 0 ≤ t ∧ t < IntKind.wrap .i64 (x.getD j 0 + c.cs.getD j 0)) → Z20.p34 (fun H' q => (q = true ↔ ∀ t ∈ x, ¬ c.bound < loadN t x c.cs c.ns x.length) ∧ Kp H H') back back2 sx (.ptr (some (b, 0))) (i : Int) t (loadN t x c.cs c.ns j) (j : Int) false H3 := by
      intro hno
      unfold Z20.p34
      refine CondB.neg rfl (hback2 (x.length - (j + 1)) _ _ (by omega) ⟨j + 1, by omega, rfl, ?_, rfl⟩)
      refine tc rfl (tc rfl (tc rfl (tc rfl (tc ?_ (tc ej rfl)))))
      show loadN t x c.cs c.ns j = loadN t x c.cs c.ns (j + 1)
      rw [loadN, if_neg hno]
    refine rdI hx1 hjl (CondB.dec (fun h1' => ?_) fun h1' => no fun e => h1' e.1)
    refine rdI hx1 hjl (FA.mk (Ld.oc o1 rfl (rdI h1.rc (by omega) ?_)))
    by_cases h2 : t < IntKind.wrap .i64 (x.getD j 0 + c.cs.getD j 0)
    · rw [decide_eq_true h2]
      unfold Z20.p34
      refine CondB.pos rfl (FA.mk (Ld.oc o1 rfl (rdI h1.rn (by omega) (hback2 (x.length - (j + 1)) _ _ (by omega) ⟨j + 1, by omega, rfl, ?_, rfl⟩))))
      refine tc rfl (tc rfl (tc rfl (tc rfl (tc ?_ (tc ej rfl)))))
      show IntKind.wrap .i64 (loadN t x c.cs c.ns j + c.ns.getD j 0) = loadN t x c.cs c.ns (j + 1)
      rw [loadN, if_pos ⟨h1', h2⟩]
    · rw [decide_eq_false h2]
      exact no fun e => h2 e.2
  · have hjl : j = x.length := by omega
    subst hjl
    refine FA.mk (Ld.oi o1 rfl (CondB.dec (fun hbig => ⟨⟨fun e => (by cases e), fun e => ?_⟩, k1⟩) fun hsm => ?_))
    · exact absurd hbig (e t (List.mem_of_getElem? hat))
    · refine hback (x.length - (i + 1)) _ _ (by omega) ⟨i + 1, by omega, rfl, ?_, rfl, take_all hat hall hsm⟩
      exact tc rfl (tc rfl (tc ((wrap64 (by omega) (by omega)).trans (by omega)) rfl))
end Go.Proofs.YtkpjcnlljdccjaaGreat
end
section
namespace Go.Proofs.YtkpjcnlljdccjaaGreat
open Go.AI Go.Lib
set_option linter.unusedVariables false
theorem nodup_take {x : List Int} {i : Nat} (hi : i < x.length) : (x.take (i + 1)).Nodup ↔ (x.take i).Nodup ∧ ∀ y ∈ x.take i, y ≠ x.getD i 0 := by
  rw [List.take_add_one, at_getD hi]
  show (x.take i ++ [x.getD i 0]).Nodup ↔ _
  rw [List.nodup_append]
  constructor
  · rintro ⟨h1, _, h3⟩
    exact ⟨h1, fun y hy => h3 y hy _ (List.mem_singleton_self _)⟩
  · rintro ⟨h1, h2⟩
    exact ⟨h1, by simp, fun y hy z hz => by obtain rfl := List.mem_singleton.1 hz; exact h2 y hy⟩
theorem diff_c {x : List Int} {sx : AC} {H H0 : AHeap} {P : Prop} (hx : SlR H sx 1 (iRows x)) (hl : x.length ≤ 100) (hk : Kp H0 H) (hP : P ↔ x.Nodup) :
    Z22.l10 (fun H' q => (q = true ↔ P) ∧ Kp H0 H') sx 0 H := by
  unfold Z22.l10
  refine LoopT.rule (fun m s0 H2 => ∃ i : Nat, i ≤ x.length ∧ m = x.length - i ∧ s0 = (sx, (i : Int), ()) ∧ H2 = H ∧ (x.take i).Nodup) x.length ⟨0, by omega, by omega, rfl, rfl, by simp⟩ ?_
  rintro m s0 H2 back ⟨i, hi, rfl, rfl, rfl, hnd⟩ hback
  simp only [Z22.b10]
  refine LenS.of hx ?_
  rw [iRows_len]
  refine CondB.dec (fun hlt => ?_) fun hge => ?_
  rotate_left
  · have hil : i = x.length := by omega
    subst hil
    rw [List.take_length] at hnd
    exact ⟨⟨fun _ => hP.2 hnd, fun _ => by trivial⟩, hk⟩
  have hil : i < x.length := by omega
  unfold Z22.l22
  refine LoopT.rule (fun m s0 H3 => ∃ j : Nat, j ≤ i ∧ m = i - j ∧ s0 = (sx, (i : Int), (j : Int), ()) ∧ H3 = H2 ∧ ∀ y ∈ x.take j, y ≠ x.getD i 0) i ⟨0, by omega, by omega, rfl, rfl, fun t ht => by cases ht⟩ ?_
  rintro m s0 H3 back2 ⟨j, hj, rfl, rfl, rfl, hall⟩ hback2
  simp only [Z22.b22]
  refine CondB.dec (fun hlt => ?_) fun hge => ?_
  · have hji : j < i := by omega
    refine rdI hx hil (rdI hx (by omega) (CondB.eq (fun he => ⟨⟨fun e => (by cases e), fun e => ?_⟩, hk⟩) fun hne => ?_))
    · exfalso
      have hnd2 := hP.1 e
      have hjl : j < x.length := by omega
      have hne := List.pairwise_iff_getElem.1 hnd2 j i hjl hil hji
      have e1 := at_getD hil
      have e2 := at_getD hjl
      rw [List.getElem?_eq_getElem hil] at e1
      rw [List.getElem?_eq_getElem hjl] at e2
      simp only [Option.some.injEq] at e1 e2
      exact hne (by rw [e1, e2, he])
    · refine hback2 (i - (j + 1)) _ _ (by omega) ⟨j + 1, by omega, rfl, ?_, rfl, take_all (at_getD (show j < x.length by omega)) hall fun e => hne e.symm⟩
      exact tc rfl (tc rfl (tc ((wrap64 (by omega) (by omega)).trans (by omega)) rfl))
  · have hji : j = i := by omega
    subst hji
    refine hback (x.length - (j + 1)) _ _ (by omega) ⟨j + 1, by omega, rfl, ?_, rfl, (nodup_take hil).2 ⟨hnd, hall⟩⟩
    exact tc rfl (tc ((wrap64 (by omega) (by omega)).trans (by omega)) rfl)
theorem rows_c {c : Cn} {x : List Int} {b : Nat} {sv sc sn st sx : AC} {H H0 : AHeap} {P : Prop} (h : CIn H c sv sc sn st) (o1 : Own H b (cnCells c sv sc sn st)) (hx : SlR H sx 1 (iRows x)) (hl : x.length ≤ 100) (hk : Kp H0 H) (ht : ∀ t ∈ c.ts, t.length = x.length) (hP : P ↔ x ∈ c.ts) :
    Z22.l52 (fun H' q => (q = true ↔ P) ∧ Kp H0 H') sx (.ptr (some (b, 0))) 0 H := by
  have llt := h.lt
  unfold Z22.l52
  refine LoopT.rule (fun m s0 H2 => ∃ i : Nat, i ≤ c.ts.length ∧ m = c.ts.length - i ∧ s0 = (sx, .ptr (some (b, 0)), (i : Int), ()) ∧ H2 = H ∧ ∀ t ∈ c.ts.take i, t ≠ x) c.ts.length ⟨0, by omega, by omega, rfl, rfl, fun t ht => by cases ht⟩ ?_
  rintro m s0 H2 back ⟨i, hi, rfl, rfl, rfl, hall⟩ hback
  simp only [Z22.b52]
  refine FA.mk (Ld.oc o1 rfl (h.rt.len ?_))
  refine CondB.dec (fun hlt => ?_) fun hge => ?_
  rotate_left
  · have hil : i = c.ts.length := by omega
    subst hil
    rw [List.take_length] at hall
    exact ⟨⟨fun e => (by cases e), fun e => absurd rfl (hall x (hP.1 e))⟩, hk⟩
  have hil : i < c.ts.length := by omega
  obtain ⟨t, hti⟩ : ∃ b, c.ts[i]? = some b := ⟨_, List.getElem?_eq_getElem hil⟩
  have htl := ht t (List.mem_of_getElem? hti)
  have hti' : c.ts[((i : Int)).toNat]? = some t := by rw [Int.toNat_natCast]; exact hti
  unfold Z22.l67
  refine LoopT.rule (fun m s0 H3 => ∃ j : Nat, j ≤ x.length ∧ m = x.length - j ∧ s0 = (sx, .ptr (some (b, 0)), (i : Int), decide (t.take j = x.take j), (j : Int), ()) ∧ H3 = H2) x.length ⟨0, by omega, by omega, tc rfl (tc rfl (tc rfl (tc (decide_eq_true (by simp)).symm (tc rfl rfl)))), rfl⟩ ?_
  rintro m s0 H3 back2 ⟨j, hj, rfl, rfl, rfl⟩ hback2
  simp only [Z22.b67]
  refine LenS.of hx ?_
  rw [iRows_len]
  refine CondB.dec (fun hlt => ?_) fun hge => ?_
  · have hjl : j < x.length := by omega
    have ej : IntKind.wrap .i64 ((j : Int) + 1) = ((j + 1 : Nat) : Int) := (wrap64 (by omega) (by omega)).trans (by omega)
    have estep : t.take (j + 1) = x.take (j + 1) ↔ t.take j = x.take j ∧ t.getD j 0 = x.getD j 0 := by
      rw [List.take_add_one, List.take_add_one, at_getD hjl, at_getD (show j < t.length by omega)]
      constructor
      · intro e
        have := List.append_inj' e rfl
        exact ⟨this.1, by simpa using this.2⟩
      · rintro ⟨e1, e2⟩
        rw [e1, e2]
    refine FA.mk (Ld.oc o1 rfl (h.rt.at (by omega) hti' fun y hy => rdI hy (by omega) (rdI hx hjl ?_)))
    refine CondB.ne (fun hne => hback2 (x.length - (j + 1)) _ _ (by omega) ⟨j + 1, by omega, rfl, ?_, rfl⟩) fun heq => hback2 (x.length - (j + 1)) _ _ (by omega) ⟨j + 1, by omega, rfl, ?_, rfl⟩
    · refine tc rfl (tc rfl (tc rfl (tc ?_ (tc ej rfl))))
      exact (decide_eq_false fun e => hne (estep.1 e).2).symm
    · refine tc rfl (tc rfl (tc rfl (tc ?_ (tc ej rfl))))
      exact decide_eq_decide.2 ⟨fun e => estep.2 ⟨e, heq⟩, fun e => (estep.1 e).1⟩
  · have hjl : j = x.length := by omega
    subst hjl
    rw [List.take_length, List.take_of_length_le (by omega)]
    refine CondB.mk (fun hy => ⟨⟨fun _ => hP.2 ?_, fun _ => by trivial⟩, hk⟩) fun hn => ?_
    · rw [← (of_decide_eq_true hy : t = x)]
      exact List.mem_of_getElem? hti
    · refine hback (c.ts.length - (i + 1)) _ _ (by omega) ⟨i + 1, by omega, rfl, ?_, rfl, take_all hti hall (of_decide_eq_false hn)⟩
      exact tc rfl (tc rfl (tc ((wrap64 (by omega) (by omega)).trans (by omega)) rfl))
end Go.Proofs.YtkpjcnlljdccjaaGreat
end
section
namespace Go.Proofs.YtkpjcnlljdccjaaGreat
open Go.AI Go.Lib
set_option linter.unusedVariables false
def bestN (bound : Int) (D : List Int) (j : Nat) : Int := if bound = 0 then minOf (D.take (max 1 j)) else maxOf (D.take (max 1 j))
theorem bestN_step {bound : Int} {D : List Int} {j : Nat} (hb : bound = 0 ∨ bound = 1) (hj : j < D.length) :
    bestN bound D (j + 1) = if (bound = 0 ∧ D.getD j 0 < bestN bound D j) ∨ (bound = 1 ∧ D.getD j 0 > bestN bound D j) then D.getD j 0 else bestN bound D j := by
  unfold bestN
  rcases Nat.eq_zero_or_pos j with rfl | h0
  · rw [show max 1 (0 + 1) = 1 from rfl, show max 1 0 = 1 from rfl, minOf_one, maxOf_one]
    rcases hb with rfl | rfl <;> simp
  · rw [show max 1 (j + 1) = j + 1 from by omega, show max 1 j = j from by omega, minOf_step D j h0 hj, maxOf_step D j h0 hj]
    rcases hb with rfl | rfl
    · simp only [if_pos, true_and, show ¬ ((0 : Int) = 1) by omega, false_and, or_false]
      split <;> omega
    · simp only [show ¬ ((1 : Int) = 0) by omega, if_false, false_and, true_and, false_or]
      split <;> omega
theorem count_step {D : List Int} {j : Nat} {b : Int} (hj : j < D.length) : ((D.take (j + 1)).count b : Int) = (D.take j).count b + if D.getD j 0 = b then 1 else 0 := by
  rw [List.take_add_one, at_getD hj]
  show ((D.take j ++ [D.getD j 0]).count b : Int) = _
  rw [List.count_append, List.count_singleton]
  by_cases h : D.getD j 0 = b
  · rw [if_pos h, h]; simp
  · rw [if_neg h]
    have : (D.getD j 0 == b) = false := by simpa using h
    rw [this]; simp
theorem ext_c {c : Cn} {x : List Int} {b : Nat} {sv sc sn st sx : AC} {H H0 : AHeap} {P : Prop} (o1 : Own H b (cnCells c sv sc sn st)) (hx : SlR H sx 1 (iRows x)) (hl : 2 ≤ x.length ∧ x.length ≤ 100) (hk : Kp H0 H)
    (h8 : c.k = 8 → (P ↔ x.getD 0 0 = ((x.drop 1).count c.bound : Int))) (h7 : c.k ≠ 8 → c.k = 7 ∧ (c.bound = 0 ∨ c.bound = 1) ∧ (P ↔ x.getD 0 0 = bestN c.bound (x.drop 1) (x.length - 1))) :
    Z22.l102 (fun H' q => (q = true ↔ P) ∧ Kp H0 H') sx (.ptr (some (b, 0))) 0 (x.getD 1 0) 1 H := by
  have hdl : (x.drop 1).length = x.length - 1 := List.length_drop
  have hgd := getD_drop1 x
  obtain ⟨D, hD⟩ : ∃ D, D = x.drop 1 := ⟨_, rfl⟩
  rw [← hD] at h8 h7 hdl hgd
  unfold Z22.l102
  refine LoopT.rule (fun m s0 H2 => ∃ (j : Nat) (best : Int), j + 1 ≤ x.length ∧ m = x.length - (j + 1) ∧ s0 = (sx, .ptr (some (b, 0)), ((D.take j).count c.bound : Int), best, ((j + 1 : Nat) : Int), ()) ∧ H2 = H ∧ (c.k = 7 → best = bestN c.bound D j)) (x.length - 1) ⟨0, x.getD 1 0, by omega, by omega, rfl, rfl, fun _ => ?_⟩ ?_
  · unfold bestN
    rw [show max 1 0 = 1 from rfl, minOf_one, maxOf_one, hgd]
    split <;> rfl
  rintro m s0 H2 back ⟨j, best, hj, rfl, rfl, rfl, hbest⟩ hback
  simp only [Z22.b102]
  refine LenS.of hx ?_
  rw [iRows_len]
  refine CondB.dec (fun hlt => ?_) fun hge => ?_
  · have hjl : j + 1 < x.length := by omega
    have hjd : j < D.length := by omega
    have ej : IntKind.wrap .i64 (((j + 1 : Nat) : Int) + 1) = ((j + 1 + 1 : Nat) : Int) := (wrap64 (by omega) (by omega)).trans (by omega)
    have hcl : (D.take j).count c.bound ≤ j := by
      have := List.count_le_length (l := D.take j) (a := c.bound)
      rw [List.length_take] at this
      omega
    have p119 : ∀ (n : Int) (f : Bool), n = ((D.take (j + 1)).count c.bound : Int) → (c.k = 7 → f = decide ((c.bound = 0 ∧ x.getD (j + 1) 0 < best) ∨ (c.bound = 1 ∧ x.getD (j + 1) 0 > best))) → Z22.p119 (fun H' q => (q = true ↔ P) ∧ Kp H0 H') back sx (.ptr (some (b, 0))) n best ((j + 1 : Nat) : Int) f H2 := by
      intro n f hn hf
      subst hn
      have hstep : ∀ best' : Int, (c.k = 7 → best' = if (c.bound = 0 ∧ x.getD (j + 1) 0 < best) ∨ (c.bound = 1 ∧ x.getD (j + 1) 0 > best) then x.getD (j + 1) 0 else best) → c.k = 7 → best' = bestN c.bound D (j + 1) := by
        intro best' h h77
        rw [h h77, bestN_step (h7 (by omega)).2.1 hjd, hgd, hbest h77]
      unfold Z22.p119
      refine CondB.mk (fun hy => rdI hx hjl (hback (x.length - (j + 1 + 1)) _ _ (by omega) ⟨j + 1, x.getD (j + 1) 0, by omega, rfl, ?_, rfl, hstep _ fun h77 => ?_⟩)) fun hn => hback (x.length - (j + 1 + 1)) _ _ (by omega) ⟨j + 1, best, by omega, rfl, ?_, rfl, hstep _ fun h77 => ?_⟩
      · exact tc rfl (tc rfl (tc rfl (tc rfl (tc ej rfl))))
      · rw [if_pos (of_decide_eq_true ((hf h77).symm.trans hy))]
      · exact tc rfl (tc rfl (tc rfl (tc rfl (tc ej rfl))))
      · rw [if_neg (of_decide_eq_false ((hf h77).symm.trans hn))]
    have p117 : ∀ (n : Int), n = ((D.take (j + 1)).count c.bound : Int) → Z22.p117 (fun H' q => (q = true ↔ P) ∧ Kp H0 H') back sx (.ptr (some (b, 0))) n best ((j + 1 : Nat) : Int) H2 := by
      intro n hn
      unfold Z22.p117
      refine FA.mk (Ld.oi o1 rfl (CondB.eq (fun h77 => FA.mk (Ld.oi o1 rfl (CondB.eq (fun hb0 => rdI hx hjl (CondB.dec (fun hc => p119 n true hn fun _ => (decide_eq_true (.inl ⟨hb0, hc⟩)).symm) fun hc => FA.mk (Ld.oi o1 rfl (CondB.eq (fun hb1 => by omega) fun hb1 => p119 n false hn fun _ => (decide_eq_false ?_).symm)))) fun hb0 => FA.mk (Ld.oi o1 rfl (CondB.eq (fun hb1 => rdI hx hjl (p119 n _ hn fun _ => decide_eq_decide.2 ?_)) fun hb1 => p119 n false hn fun _ => (decide_eq_false ?_).symm))))) fun h77 => p119 n false hn fun e => absurd e h77))
      · rintro (⟨_, e⟩ | ⟨e, _⟩)
        · exact hc e
        · exact hb1 e
      · constructor
        · exact fun e => .inr ⟨hb1, e⟩
        · rintro (⟨e, _⟩ | ⟨_, e⟩)
          · exact absurd e hb0
          · exact e
      · rintro (⟨e, _⟩ | ⟨e, _⟩)
        · exact hb0 e
        · exact hb1 e
    refine rdI hx hjl (FA.mk (Ld.oi o1 rfl (CondB.eq (fun he => p117 _ ?_) fun hne => p117 _ ?_)))
    · rw [wrap64 (by omega) (by omega), count_step hjd, if_pos (by rw [hgd]; exact he)]
    · rw [count_step hjd, if_neg (by rw [hgd]; exact hne)]; omega
  · have hjl : j + 1 = x.length := by omega
    have hDt : D.take j = D := List.take_of_length_le (by omega)
    have rd0 : ∀ {k : Int → Prop}, k (x.getD 0 0) → IA 1 sx 0 fun p => Ld [.int .i64] H2 p fun (v : Int) => k v := fun {k} q => rdI (i := 0) hx (by omega) q
    refine FA.mk (Ld.oi o1 rfl (CondB.eq (fun hk8 => rd0 ⟨?_, hk⟩) fun hk8 => rd0 ⟨?_, hk⟩))
    · rw [beq_iff_eq, hDt, h8 hk8]
    · obtain ⟨g1, g2, g3⟩ := h7 hk8
      rw [beq_iff_eq, hbest g1, g3, show x.length - 1 = j from by omega]
end Go.Proofs.YtkpjcnlljdccjaaGreat
end
section
namespace Go.Proofs.YtkpjcnlljdccjaaGreat
open Go.AI Go.Lib
set_option linter.unusedVariables false
structure Fit (c : Cn) (x : List Int) : Prop where
  k : 1 ≤ c.k ∧ c.k ≤ 10
  ar : arityOk c.k c.vs.length
  fm : Formed c
  rg : Ranged c
  len : x.length = c.vs.length
  rng : ∀ v ∈ x, -16384 ≤ v ∧ v ≤ 16384
theorem Fit.n {c : Cn} {x : List Int} (f : Fit c x) : 1 ≤ x.length ∧ x.length ≤ 16 ∧ (c.k = 2 → x.length = 2) ∧ (c.k = 6 → x.length = 3) ∧ (c.k = 4 → 3 ≤ x.length) ∧ (c.k = 7 ∨ c.k = 8 ∨ c.k = 10 → 2 ≤ x.length) := by
  have h := (arity_sh f.k).1 f.ar
  rw [f.len]
  unfold shLeast shMost at h
  have := f.k
  split at h <;> split at h <;> (try split at h) <;> omega
theorem listed_c {c : Cn} {x : List Int} {sv sc sn st sx : AC} {H : AHeap} (h : CIn H c sv sc sn st) (hx : SlR H sx 1 (iRows x)) (f : Fit c x) (hk : c.k = 3 ∨ c.k = 5 ∨ c.k = 7 ∨ c.k = 8) :
    Fn.Z22 c.k sv sc sn c.rel c.bound st sx H fun H' q => (q = true ↔ holdsP c x) ∧ Kp H H' := by
  obtain ⟨n1, n2, m2, m6, m4, m7⟩ := f.n
  refine Z22.run ?_
  unfold Z22.W
  refine New.own fun b H1 hb hs1 o1 k1 => FA.mk (Ld.oi o1 rfl ?_)
  have h1 := h.kp k1
  have hx1 := hx.kp k1
  refine CondB.eq (fun h3 => diff_c hx1 (by omega) k1 ?_) fun h3 => FA.mk (Ld.oi o1 rfl (CondB.eq (fun h5 => rows_c h1 o1 hx1 (by omega) k1 (fun t ht => by rw [f.len]; exact (f.fm.some h5).2 t ht) ?_) fun h5 => rdI (i := 1) hx1 (by omega) (ext_c o1 hx1 ⟨by omega, by omega⟩ k1 (fun h8 => ?_) fun h8 => ?_)))
  · unfold holdsP; rw [if_neg (by omega), if_neg (by omega), if_pos h3]
  · unfold holdsP; rw [if_neg (by omega), if_neg (by omega), if_neg (by omega), if_neg (by omega), if_pos h5]
  · unfold holdsP; rw [if_neg (by omega), if_neg (by omega), if_neg (by omega), if_neg (by omega), if_neg (by omega), if_neg (by omega), if_neg (by omega), if_pos h8]
  · have h7 : c.k = 7 := by omega
    have hb := f.rg.bound
    rw [if_pos h7] at hb
    refine ⟨h7, by omega, ?_⟩
    unfold holdsP bestN
    rw [if_neg (by omega), if_neg (by omega), if_neg (by omega), if_neg (by omega), if_neg (by omega), if_neg (by omega), if_pos h7]
    have hd : (x.drop 1).take (max 1 (x.length - 1)) = x.drop 1 := List.take_of_length_le (by rw [List.length_drop]; omega)
    rw [hd]
end Go.Proofs.YtkpjcnlljdccjaaGreat
end
section
namespace Go.Proofs.YtkpjcnlljdccjaaGreat
open Go.AI Go.Lib
set_option linter.unusedVariables false
theorem rHolds_c {c : Cn} {x : List Int} {sv sc sn st sx : AC} {H : AHeap} (h : CIn H c sv sc sn st) (hx : SlR H sx 1 (iRows x)) (f : Fit c x) :
    Fn.Z16 c.k sv sc sn c.rel c.bound st sx H fun H' q => (q = true ↔ holdsP c x) ∧ Kp H H' := by
  obtain ⟨n1, n2, m2, m6, m4, m7⟩ := f.n
  have hcs := f.fm.cs
  have hns := f.fm.ns
  rw [← f.len] at hcs hns
  have hk := f.k
  refine Z16.run ?_
  unfold Z16.W
  refine New.own fun b H1 hb hs1 o1 k1 => FA.mk (Ld.oi o1 rfl ?_)
  have h1 := h.kp k1
  have hx1 := hx.kp k1
  have rd : ∀ (i : Nat) {k : Int → Prop}, i < x.length → k (x.getD i 0) → IA 1 sx (i : Int) fun p => Ld [.int .i64] H1 p fun (v : Int) => k v := fun i {k} hi q => rdI hx1 hi q
  refine CondB.eq (fun e1 => ?_) fun e1 => FA.mk (Ld.oi o1 rfl (CondB.eq (fun e10 => ?_) fun e10 => FA.mk (Ld.oi o1 rfl (CondB.eq (fun e2 => ?_) fun e2 => FA.mk (Ld.oi o1 rfl (CondB.eq (fun e4 => ?_) fun e4 => FA.mk (Ld.oi o1 rfl (CondB.eq (fun e6 => ?_) fun e6 => FA.mk (Ld.oi o1 rfl (CondB.eq (fun e9 => ?_) fun e9 => ?_))))))))))
  · -- linear
    rw [if_pos (.inl e1)] at hcs
    unfold Z16.l12
    refine LoopT.rule (fun m s0 H2 => ∃ i : Nat, i ≤ x.length ∧ m = x.length - i ∧ s0 = (sx, .ptr (some (b, 0)), sumN c.cs x i, (i : Int), ()) ∧ H2 = H1) x.length ⟨0, by omega, by omega, rfl, rfl⟩ ?_
    rintro m s0 H2 back ⟨i, hi, rfl, rfl, rfl⟩ hback
    simp only [Z16.b12]
    refine LenS.of hx1 ?_
    rw [iRows_len]
    refine CondB.dec (fun hlt => ?_) fun hge => ?_
    · have hil : i < x.length := by omega
      refine FA.mk (Ld.oc o1 rfl (rdI h1.rc (by omega) (rd i hil (hback (x.length - (i + 1)) _ _ (by omega) ⟨i + 1, by omega, rfl, ?_, rfl⟩))))
      exact tc rfl (tc rfl (tc rfl (tc ((wrap64 (by omega) (by omega)).trans (by omega)) rfl)))
    · have hil : i = x.length := by omega
      subst hil
      refine FA.mk (Ld.oi o1 rfl (FA.mk (Ld.oi o1 rfl (RunT.imp ?_ related_c))))
      rintro H3 (q : Bool) ⟨e3, rfl⟩
      obtain rfl : H2 = H3 := e3.symm
      refine ⟨?_, k1⟩
      unfold holdsP
      rw [if_pos e1]
  · -- reified
    rw [if_neg (by omega), if_pos e10] at hcs
    have hgd := getD_drop1 x
    unfold Z16.l37
    refine LoopT.rule (fun m s0 H2 => ∃ j : Nat, j + 1 ≤ x.length ∧ m = x.length - (j + 1) ∧ s0 = (sx, .ptr (some (b, 0)), sumN c.cs (x.drop 1) j, ((j + 1 : Nat) : Int), ()) ∧ H2 = H1) (x.length - 1) ⟨0, by omega, by omega, rfl, rfl⟩ ?_
    rintro m s0 H2 back ⟨j, hj, rfl, rfl, rfl⟩ hback
    simp only [Z16.b37]
    refine LenS.of hx1 ?_
    rw [iRows_len]
    refine CondB.dec (fun hlt => ?_) fun hge => ?_
    · have hjl : j + 1 < x.length := by omega
      have ew : IntKind.wrap .i64 (((j + 1 : Nat) : Int) - 1) = (j : Int) := (wrap64 (by omega) (by omega)).trans (by omega)
      rw [ew]
      refine FA.mk (Ld.oc o1 rfl (rdI h1.rc (by omega) (rd (j + 1) hjl (hback (x.length - (j + 1 + 1)) _ _ (by omega) ⟨j + 1, by omega, rfl, ?_, rfl⟩))))
      refine tc rfl (tc rfl (tc ?_ (tc ((wrap64 (by omega) (by omega)).trans (by omega)) rfl)))
      show IntKind.wrap .i64 (sumN c.cs (x.drop 1) j + IntKind.wrap .i64 (c.cs.getD j 0 * x.getD (j + 1) 0)) = sumN c.cs (x.drop 1) (j + 1)
      rw [sumN, hgd]
    · have hjl : j = x.length - 1 := by omega
      subst hjl
      refine FA.mk (Ld.oi o1 rfl (FA.mk (Ld.oi o1 rfl (RunT.imp ?_ related_c))))
      rintro H3 (q : Bool) ⟨e3, rfl⟩
      obtain rfl : H2 = H3 := e3.symm
      have hP : holdsP c x ↔ (x.getD 0 0 = 1 ∧ relB (sumN c.cs (x.drop 1) (x.length - 1)) c.rel c.bound = true) ∨ (x.getD 0 0 = 0 ∧ relB (sumN c.cs (x.drop 1) (x.length - 1)) c.rel c.bound = false) := by
        unfold holdsP
        rw [if_neg (by omega), if_neg (by omega), if_neg (by omega), if_neg (by omega), if_neg (by omega), if_neg (by omega), if_neg (by omega), if_neg (by omega), if_neg (by omega)]
      rw [hP]
      obtain ⟨R, hR⟩ : ∃ R, R = relB (sumN c.cs (x.drop 1) (x.length - 1)) c.rel c.bound := ⟨_, rfl⟩
      rw [← hR]
      obtain ⟨z, hz⟩ : ∃ z, z = x.getD 0 0 := ⟨_, rfl⟩
      have rd0 : ∀ {k : Int → Prop}, k z → IA 1 sx 0 fun p => Ld [.int .i64] H2 p fun (v : Int) => k v := fun {k} q => rd 0 (by omega) (by rw [← hz]; exact q)
      rw [← hz]
      refine rd0 (CondB.eq (fun z1 => CondB.mk (fun ht => ⟨⟨fun _ => .inl ⟨z1, ht⟩, fun _ => by trivial⟩, k1⟩) fun ht => rd0 (CondB.eq (fun z0 => by omega) fun z0 => ⟨⟨fun e => (by cases e), ?_⟩, k1⟩)) fun z1 => rd0 (CondB.eq (fun z0 => ⟨⟨fun e => .inr ⟨z0, by simpa using e⟩, ?_⟩, k1⟩) fun z0 => ⟨⟨fun e => (by cases e), ?_⟩, k1⟩))
      · rintro (⟨_, e⟩ | ⟨e, _⟩)
        · rw [ht] at e; cases e
        · exact absurd e z0
      · rintro (⟨e, _⟩ | ⟨_, e⟩)
        · exact absurd e z1
        · rw [e]; rfl
      · rintro (⟨e, _⟩ | ⟨e, _⟩)
        · exact absurd e z1
        · exact absurd e z0
  · have := m2 e2
    refine rd 0 (by omega) (rd 1 (by omega) (FA.mk (Ld.oi o1 rfl ⟨?_, k1⟩)))
    unfold holdsP
    rw [if_neg (by omega), if_pos e2, beq_iff_eq]
  · have := m4 e4
    refine rd 0 (by omega) (LenS.of hx1 ?_)
    rw [iRows_len, wrap64 (by omega) (by omega)]
    refine RunT.imp ?_ rwithin_c
    rintro H2 (q : Bool) ⟨e, hq⟩
    obtain rfl : H1 = H2 := e.symm
    have hP : holdsP c x ↔ 0 ≤ x.getD 0 0 ∧ x.getD 0 0 ≤ (x.length : Int) - 3 ∧ x.getD (2 + (x.getD 0 0).toNat) 0 = x.getD 1 0 := by
      unfold holdsP
      rw [if_neg (by omega), if_neg (by omega), if_neg (by omega), if_pos e4]
    refine CondB.mk (fun hy => rd 0 (by omega) ?_) fun hn => ⟨⟨fun e => (by cases e), fun e => ?_⟩, k1⟩
    · have hin := hq.1 hy
      have ew : IntKind.wrap .i64 (2 + x.getD 0 0) = ((2 + (x.getD 0 0).toNat : Nat) : Int) := (wrap64 (by omega) (by omega)).trans (by omega)
      rw [ew]
      refine rd _ (by omega) (rd 1 (by omega) ⟨?_, k1⟩)
      rw [beq_iff_eq, hP]
      exact ⟨fun e => ⟨hin.1, hin.2, e⟩, fun e => e.2.2⟩
    · have := hP.1 e
      rw [hq.2 ⟨this.1, this.2.1⟩] at hn
      cases hn
  · have := m6 e6
    refine rd 0 (by omega) (rd 1 (by omega) (rd 2 (by omega) ⟨?_, k1⟩))
    unfold holdsP
    rw [if_neg (by omega), if_neg (by omega), if_neg (by omega), if_neg (by omega), if_neg (by omega), if_pos e6, beq_iff_eq]
  · rw [if_pos (.inr e9)] at hcs
    rw [if_pos e9] at hns
    refine Ld.o7 o1 c.k sv sc sn c.rel c.bound st rfl (RunT.imp ?_ (fits5_c h1 hx1 (by omega) (by omega) (by omega)))
    rintro H2 (q : Bool) ⟨hq, k2⟩
    refine ⟨?_, k1.trans k2⟩
    unfold holdsP
    rw [if_neg (by omega), if_neg (by omega), if_neg (by omega), if_neg (by omega), if_neg (by omega), if_neg (by omega), if_neg (by omega), if_neg (by omega), if_pos e9]
    exact hq
  · refine Ld.o7 o1 c.k sv sc sn c.rel c.bound st rfl (RunT.imp ?_ (listed_c h1 hx1 f (by omega)))
    rintro H2 (q : Bool) ⟨hq, k2⟩
    exact ⟨hq, k1.trans k2⟩
end Go.Proofs.YtkpjcnlljdccjaaGreat
end
section
namespace Go.AI
theorem flat_at {β : Type} {k : Nat} : ∀ {rows : List (List β)} {i j : Nat} {r : List β}, (∀ r ∈ rows, r.length = k) → rows[i]? = some r → j < k → rows.flatten[i * k + j]? = r[j]?
  | [], i, j, r, _, h, _ => by simp at h
  | a :: rows, 0, j, r, hl, h, hj => by
    simp only [List.getElem?_cons_zero, Option.some.injEq] at h
    subst h
    have ha := hl a (List.mem_cons_self ..)
    rw [Nat.zero_mul, Nat.zero_add, List.flatten_cons, List.getElem?_append_left (by omega)]
  | a :: rows, i + 1, j, r, hl, h, hj => by
    simp only [List.getElem?_cons_succ] at h
    have ha := hl a (List.mem_cons_self ..)
    have hm : (i + 1) * k = i * k + k := by rw [Nat.add_mul, Nat.one_mul]
    rw [List.flatten_cons, List.getElem?_append_right (by omega), ← flat_at (fun r hr => hl r (List.mem_cons_of_mem _ hr)) h hj]
    congr 1
    omega
theorem SlR.src {H : AHeap} {s : AC} {sz : Nat} {rows : List (List AC)} (h : SlR H s sz rows) (hl : ∀ r ∈ rows, r.length = sz) (h0 : 0 < sz) : srcA H sz s = some (rows.length, rows.flatten) := by
  obtain ⟨a, z, cap, rfl, hr⟩ := h.ex
  cases rows with
  | nil => cases a <;> simp [srcA]
  | cons r0 rows =>
    obtain ⟨rfl, b, o, rfl, e0⟩ := hr 0 r0 rfl
    have hcells : ∃ e g st ro cells, H.get b = some (.row e g st ro cells) := by
      unfold AHeap.load at e0
      split at e0
      · next h => exact ⟨_, _, _, _, _, h⟩
      · cases e0
    obtain ⟨e, g, st, ro, cells, hg⟩ := hcells
    have hrow : ∀ (i : Nat) (r : List AC), (r0 :: rows)[i]? = some r → takeAll cells (o + i * z) z = some r := by
      intro i r hi
      obtain ⟨_, b', o', e1, e2⟩ := hr i r hi
      cases e1
      unfold AHeap.load at e2
      rw [hg] at e2
      exact e2
    have hfl := flatten_len hl
    have : H.load (b, o) ((r0 :: rows).length * z) = some (r0 :: rows).flatten := by
      unfold AHeap.load
      rw [hg]
      refine takeAll_of hfl fun t ht => ?_
      have hq : t / z < (r0 :: rows).length := Nat.div_lt_of_lt_mul (by rw [Nat.mul_comm]; exact ht)
      have hm := Nat.mod_lt t h0
      have hat : (r0 :: rows)[t / z]? = some (r0 :: rows)[t / z] := List.getElem?_eq_getElem hq
      have h1 := (takeAll_some (hrow _ _ hat)).2 (t % z) hm
      have h2 := flat_at (j := t % z) hl hat hm
      have h3 : t / z * z + t % z = t := by rw [Nat.mul_comm]; exact Nat.div_add_mod t z
      rw [h3] at h2
      rw [Nat.add_assoc, h3] at h1
      rw [h1, h2]
    simp only [srcA]
    rw [if_neg (by simp), if_pos trivial, this]
    rfl
end Go.AI
end
section
namespace Go.Proofs.YtkpjcnlljdccjaaGreat
open Go.AI Go.Lib
set_option linter.unusedVariables false
theorem suf_slice {H : AHeap} {s : AC} {l : List Int} (hs : SlR H s 1 (iRows l)) (hl : 1 ≤ l.length) : ∃ r, sliceA 1 s (some 1) none = some r ∧ SlR H r 1 (iRows (l.drop 1)) ∧ ∃ p cap, r = .sl (some p) 1 (l.length - 1) cap := by
  obtain ⟨a, z, cap, rfl, hr⟩ := hs.ex
  have h0 : 0 < (iRows l).length := by rw [iRows_len]; omega
  obtain ⟨rfl, b, o, rfl, _⟩ := hr 0 _ (List.getElem?_eq_getElem h0)
  have hlen := iRows_len l
  refine ⟨.sl (some (b, o + 1 * 1)) 1 ((((iRows l).length : Nat) : Int).toNat - (1 : Int).toNat) (cap.map (· - (1 : Int).toNat)), ?_, ?_, _, _, by rw [hlen, Int.toNat_natCast]; rfl⟩
  · simp only [sliceA]
    rw [if_pos ⟨.inr trivial, by simp, by simp only [Option.getD_some, Option.getD_none]; omega, by simp⟩]
    rfl
  refine ⟨some (b, o + 1 * 1), 1, cap.map (· - (1 : Int).toNat), by rw [iRows_len, iRows_len, List.length_drop, Int.toNat_natCast]; rfl, fun j r hj => ?_⟩
  have hj' : (iRows l)[j + 1]? = some r := by
    unfold iRows at hj ⊢
    rw [List.getElem?_map, List.getElem?_drop, Nat.add_comm] at hj
    rw [List.getElem?_map]; exact hj
  obtain ⟨_, b', o', e, hld⟩ := hr (j + 1) r hj'
  cases e
  refine ⟨rfl, b, o + 1, rfl, ?_⟩
  rw [show o + 1 + j * 1 = o + (j + 1) * 1 from by omega]
  exact hld
theorem load_all {H : AHeap} {p : APtr} {cap : Option Nat} {l : List Int} (hs : SlR H (.sl (some p) 1 l.length cap) 1 (iRows l)) (hl : 0 < l.length) : H.load p l.length = some (l.map (AC.int .i64)) := by
  have := hs.src (fun r hr => by obtain ⟨n, _, rfl⟩ := List.mem_map.1 hr; rfl) (by omega)
  rw [iRows_flat, iRows_len] at this
  simp only [srcA, if_neg (show ¬ l.length = 0 by omega), if_pos trivial, Nat.mul_one] at this
  obtain ⟨cs, h4, h5⟩ := Option.map_eq_some_iff.1 this
  rw [h4]
  simp only [Prod.mk.injEq] at h5
  rw [h5.2]
theorem min_c {H : AHeap} {p : APtr} {cap : Option Nat} {l : List Int} {K : AHeap → Int → Prop} (hs : SlR H (.sl (some p) 1 l.length cap) 1 (iRows l)) (hl : 0 < l.length) (h64 : l.length ≤ 9223372036854775807) (q : K H (minOf l)) : RunT Tryz.prog [(false, [.int .i64])] 73 [(.one (.sl (some p) 1 l.length cap))] H K := by
  refine runT_told (v := .one (.int .i64 (minOf l))) (H' := H) rfl ?_ ((minOf l : Int), ()) rfl q
  show mostB minOf H [.one (.sl (some p) 1 l.length cap)] = _
  simp only [mostB]
  rw [if_pos ⟨hl, h64⟩, load_all hs hl, Option.bind_some, intsOf_map]
  rfl
theorem max_c {H : AHeap} {p : APtr} {cap : Option Nat} {l : List Int} {K : AHeap → Int → Prop} (hs : SlR H (.sl (some p) 1 l.length cap) 1 (iRows l)) (hl : 0 < l.length) (h64 : l.length ≤ 9223372036854775807) (q : K H (maxOf l)) : RunT Tryz.prog [(false, [.int .i64])] 74 [(.one (.sl (some p) 1 l.length cap))] H K := by
  refine runT_told (v := .one (.int .i64 (maxOf l))) (H' := H) rfl ?_ ((maxOf l : Int), ()) rfl q
  show mostB maxOf H [.one (.sl (some p) 1 l.length cap)] = _
  simp only [mostB]
  rw [if_pos ⟨hl, h64⟩, load_all hs hl, Option.bind_some, intsOf_map]
  rfl
theorem sub_len : ∀ (l m : List Int), l.Nodup → (∀ a ∈ l, a ∈ m) → l.length ≤ m.length
  | [], _, _, _ => Nat.zero_le _
  | a :: l, m, hn, h => by
    have hn' := List.nodup_cons.1 hn
    have ha := h a (List.mem_cons_self ..)
    have h1 := sub_len l (m.erase a) hn'.2 fun b hb => (List.mem_erase_of_ne (fun e => hn'.1 (by rw [← e]; exact hb))).2 (h b (List.mem_cons_of_mem _ hb))
    have h2 := List.length_erase_of_mem ha
    have h3 := List.length_pos_of_mem ha
    rw [List.length_cons]
    omega
theorem nodup_of_len : ∀ (x s : List Int), s.Nodup → (∀ a, a ∈ s ↔ a ∈ x) → s.length = x.length → x.Nodup
  | [], _, _, _, _ => List.nodup_nil
  | a :: r, s, hn, h, hl => by
    have ha : a ∉ r := fun hr => by
      have := sub_len s r hn fun b hb => by
        rcases List.mem_cons.1 ((h b).1 hb) with rfl | hb
        · exact hr
        · exact hb
      rw [List.length_cons] at hl
      omega
    have has := (h a).2 (List.mem_cons_self ..)
    refine List.nodup_cons.2 ⟨ha, nodup_of_len r (s.erase a) (hn.erase a) (fun b => ?_) ?_⟩
    · rw [hn.mem_erase_iff, h b, List.mem_cons]
      constructor
      · rintro ⟨h1, h2 | h2⟩
        · exact absurd h2 h1
        · exact h2
      · intro hb
        exact ⟨fun e => ha (by rw [← e]; exact hb), .inr hb⟩
    · rw [List.length_erase_of_mem has, hl, List.length_cons]; omega
theorem setOf_full (x : List Int) : (setOf x).length = x.length ↔ x.Nodup := by
  have hnd : (setOf x).Nodup := (setOf_asc x).imp fun h => by omega
  constructor
  · exact nodup_of_len x _ hnd (setOf_mem x)
  · intro h
    have := sub_len x (setOf x) h fun a ha => (setOf_mem x a).2 ha
    have := setOf_len x
    omega
end Go.Proofs.YtkpjcnlljdccjaaGreat
end
section
namespace Go.Proofs.YtkpjcnlljdccjaaGreat
open Go.AI Go.Lib
set_option linter.unusedVariables false
theorem lt71 : 71 < Tryz.prog.funcs.size := (Array.getElem?_eq_some_iff.1 Tryz.func71).1
theorem holds_c {c : Cn} {x : List Int} {sv sc sn st sx : AC} {H : AHeap} (h : CIn H c sv sc sn st) (hx : SlR H sx 1 (iRows x)) (f : Fit c x) (hw : GW H) :
    Fn.Z6 c.k sv sc sn c.rel c.bound st sx H fun H' q => (q = true ↔ holdsP c x) ∧ Kp H H' := by
  obtain ⟨n1, n2, m2, m6, m4, m7⟩ := f.n
  have hcs := f.fm.cs
  have hns := f.fm.ns
  rw [← f.len] at hcs hns
  have hk := f.k
  have llt := h.lt
  refine Z6.run ?_
  unfold Z6.W
  refine New.own fun b H1 hb hs1 o0 k1 => New.own fun bx H2 hbx hs2 ox k2 => FA.mk (Ld.oi (o0.kp k2) rfl ?_)
  have o1 := o0.kp k2
  have kk := k1.trans k2
  have h2 := h.kp kk
  have hx2 := hx.kp kk
  have hw2 := kk.gw.1 hw
  have rd : ∀ (i : Nat) {k : Int → Prop}, i < x.length → k (x.getD i 0) → IA 1 sx (i : Int) fun p => Ld [.int .i64] H2 p fun (v : Int) => k v := fun i {k} hi q => rdI hx2 hi q
  have rd0 : ∀ {k : Int → Prop}, k (x.getD 0 0) → IA 1 sx 0 fun p => Ld [.int .i64] H2 p fun (v : Int) => k v := fun {k} q => rd 0 (by omega) q
  refine CondB.eq (fun e1 => ?_) fun e1 => CondB.eq (fun e2 => ?_) fun e2 => CondB.eq (fun e3 => ?_) fun e3 => CondB.eq (fun e4 => ?_) fun e4 => CondB.eq (fun e5 => ?_) fun e5 => CondB.eq (fun e6 => ?_) fun e6 => CondB.eq (fun e7 => ?_) fun e7 => CondB.eq (fun e8 => ?_) fun e8 => CondB.eq (fun e9 => ?_) fun e9 => ?_
  · rw [if_pos (.inl e1)] at hcs
    refine FA.mk (Ld.oc o1 rfl (Ld.oc ox rfl (RunT.imp ?_ (sum_c h2.rc hx2 (by omega) (by omega)))))
    rintro H3 (q : Int) ⟨e, rfl⟩
    obtain rfl : H2 = H3 := e.symm
    refine FA.mk (Ld.oi o1 rfl (FA.mk (Ld.oi o1 rfl (RunT.imp ?_ compared_c))))
    rintro H4 (q : Bool) ⟨e, rfl⟩
    obtain rfl : H2 = H4 := e.symm
    refine ⟨Same2.mk rfl, Same2.mk rfl, ?_, kk⟩
    unfold holdsP
    rw [if_pos e1, show c.cs.length = x.length from by omega]
  · have := m2 e2
    refine Ld.oc ox rfl (rd0 (Ld.oc ox rfl (rd 1 (by omega) (FA.mk (Ld.oi o1 rfl ⟨?_, kk⟩)))))
    unfold holdsP
    rw [if_neg (by omega), if_pos e2, beq_iff_eq]
  · refine Ld.oc ox rfl (RunT.imp ?_ (Z35.run (Q := fun H' q => ∃ bb, q = .fn 94 [] [(bb, 0)] ∧ Own H' bb [sx] ∧ Kp H2 H') ?_))
    rotate_left
    · unfold Z35.W
      exact New.own fun bb H3 hbb hs3 o3 k3 => Fnc.mk rfl rfl ⟨bb, rfl, o3, k3⟩
    rintro H3 (q : AC) ⟨bb, rfl, o3, k3⟩
    refine RunT.imp ?_ (Sorted_c o3 (hx2.kp k3) (k3.gw.1 hw2) (by omega) (by omega))
    rintro H4 (q : AC) ⟨⟨Fs, ho4, hFs⟩, k4⟩
    refine RunT.imp ?_ (Compact_o ho4 (k4.gw.1 (k3.gw.1 hw2)) (by unfold sortI; rw [List.length_mergeSort]; omega))
    rintro H5 (q : AC) ⟨hq5, _, k5⟩
    have k25 := k3.trans (k4.fresh k5 hFs)
    refine LenS.of hq5 ?_
    rw [iRows_len]
    refine Ld.oc (ox.kp k25) rfl (LenS.of (hx2.kp k25) ?_)
    rw [iRows_len]
    have oh := (ox.kp k25).cell (o := 0) (c := sx) rfl
    refine ⟨Same2.mk ((ox.cell (o := 0) (c := sx) rfl).trans oh.symm), Same2.mk (((ox.kp k3).cell (o := 0) (c := sx) rfl).trans oh.symm), Same2.mk (((ox.kp (k3.trans k4)).cell (o := 0) (c := sx) rfl).trans oh.symm), ?_, kk.trans k25⟩
    unfold holdsP
    rw [if_neg (by omega), if_neg (by omega), if_pos e3, beq_iff_eq, ← setOf_full]
    constructor
    · intro e
      have e' : ((setOf x).length : Int) = x.length := e
      omega
    · intro e
      show ((setOf x).length : Int) = x.length
      omega
  · have := m4 e4
    have hP : holdsP c x ↔ 0 ≤ x.getD 0 0 ∧ x.getD 0 0 ≤ (x.length : Int) - 3 ∧ x.getD (2 + (x.getD 0 0).toNat) 0 = x.getD 1 0 := by
      unfold holdsP
      rw [if_neg (by omega), if_neg (by omega), if_neg (by omega), if_pos e4]
    rw [hP]
    refine Ld.oc ox rfl (rd0 (CondB.dec (fun hz => Ld.oc ox rfl (rd0 (Ld.oc ox rfl (LenS.of hx2 ?_)))) fun hz => ⟨⟨fun e => (by cases e), fun e => absurd e.1 hz⟩, kk⟩))
    rw [iRows_len, wrap64 (by omega) (by omega)]
    refine CondB.dec (fun hle => Ld.oc ox rfl (Ld.oc ox rfl (rd0 ?_))) fun hle => ⟨⟨fun e => (by cases e), fun e => absurd e.2.1 hle⟩, kk⟩
    have ew : IntKind.wrap .i64 (2 + x.getD 0 0) = ((2 + (x.getD 0 0).toNat : Nat) : Int) := (wrap64 (by omega) (by omega)).trans (by omega)
    rw [ew]
    refine rd _ (by omega) (Ld.oc ox rfl (rd 1 (by omega) ⟨?_, kk⟩))
    rw [beq_iff_eq]
    exact ⟨fun e => ⟨hz, hle, e⟩, fun e => e.2.2⟩
  · refine FA.mk (Ld.oc o1 rfl (Fnc.mk rfl rfl ?_))
    refine Z28.run ?_
    unfold Z28.W
    refine RunT.imp ?_ (IndexFuncL_c (f := fun p => decide (p = x)) h2.rt llt fun p y H3 hp hy k3 => CVT.mk lt71 ?_)
    · rintro H3 (q : Int) ⟨k3, hq⟩
      refine ⟨?_, kk.trans k3⟩
      unfold holdsP
      rw [if_neg (by omega), if_neg (by omega), if_neg (by omega), if_neg (by omega), if_pos e5, decide_eq_true_iff, ge_iff_le, hq]
      constructor
      · rintro ⟨p, hp, e⟩
        rw [← of_decide_eq_true e]; exact hp
      · exact fun hm => ⟨x, hm, decide_eq_true rfl⟩
    · refine Z7.run ?_
      unfold Z7.W
      refine Ld.oc (ox.kp k3) rfl (RunT.imp ?_ (Equal_c hy (hx2.kp k3) (h2.ltt p hp)))
      rintro H4 (q : Bool) ⟨e, hq⟩
      obtain rfl : H3 = H4 := e.symm
      refine ⟨Kp.refl _, ?_⟩
      by_cases he : p = x
      · rw [decide_eq_true he, hq.2 he]
      · rw [decide_eq_false he]
        cases hq' : q with
        | false => rfl
        | true => exact absurd (hq.1 hq') he
  · have := m6 e6
    refine Ld.oc ox rfl (rd0 (Ld.oc ox rfl (rd 1 (by omega) (Ld.oc ox rfl (rd 2 (by omega) ⟨?_, kk⟩)))))
    unfold holdsP
    rw [if_neg (by omega), if_neg (by omega), if_neg (by omega), if_neg (by omega), if_neg (by omega), if_pos e6, beq_iff_eq]
  · have hb := f.rg.bound
    rw [if_pos e7] at hb
    have hP : holdsP c x ↔ x.getD 0 0 = if c.bound = 0 then minOf (x.drop 1) else maxOf (x.drop 1) := by
      unfold holdsP
      rw [if_neg (by omega), if_neg (by omega), if_neg (by omega), if_neg (by omega), if_neg (by omega), if_neg (by omega), if_pos e7]
    rw [hP]
    obtain ⟨r, hr, hrs, p, cap, rfl⟩ := suf_slice hx2 (by omega)
    have hdl : x.length - 1 = (x.drop 1).length := List.length_drop.symm
    rw [hdl] at hr hrs
    have h00 : (iRows x)[(0 : Int).toNat]? = some [AC.int .i64 (x.getD 0 0)] := iRow_at (at_getD (by omega))
    refine FA.mk (Ld.oi o1 rfl (CondB.eq (fun hz => Ld.oc ox rfl (IA.of hx2 (by omega) h00 fun b' o' hld => ldRow hld (Ld.oc ox rfl (Slc.mk hr ?_)))) fun hz => Ld.oc ox rfl (IA.of hx2 (by omega) h00 fun b' o' hld => ldRow hld (Ld.oc ox rfl (Slc.mk hr ?_)))))
    · unfold Fn.slices_Min_int_int
      refine min_c hrs (by omega) (by omega) ⟨Same1.mk rfl, Same1.mk rfl, ?_, kk⟩
      rw [beq_iff_eq, if_pos hz]
    · unfold Fn.slices_Max_int_int
      refine max_c hrs (by omega) (by omega) ⟨Same1.mk rfl, Same1.mk rfl, ?_, kk⟩
      rw [beq_iff_eq, if_neg hz]
  · obtain ⟨r, hr, hrs, p, cap, rfl⟩ := suf_slice hx2 (by omega)
    have hdl : (x.drop 1).length = x.length - 1 := List.length_drop
    have hP : holdsP c x ↔ x.getD 0 0 = ((x.drop 1).count c.bound : Int) := by
      unfold holdsP
      rw [if_neg (by omega), if_neg (by omega), if_neg (by omega), if_neg (by omega), if_neg (by omega), if_neg (by omega), if_neg (by omega), if_pos e8]
    rw [hP]
    obtain ⟨D, hD⟩ : ∃ D, D = x.drop 1 := ⟨_, rfl⟩
    rw [← hD] at hrs hdl ⊢
    refine Ld.oc ox rfl (Slc.mk hr (LenS.of hrs ?_))
    rw [iRows_len]
    unfold Z6.l65
    refine LoopT.rule (fun m s0 H3 => ∃ i : Nat, i ≤ D.length ∧ m = D.length - i ∧ s0 = (.ptr (some (b, 0)), .ptr (some (bx, 0)), ((D.take i).count c.bound : Int), .sl (some p) 1 (x.length - 1) cap, (D.length : Int), (i : Int), ()) ∧ H3 = H2) D.length ⟨0, by omega, by omega, rfl, rfl⟩ ?_
    rintro m s0 H3 back ⟨i, hi, rfl, rfl, rfl⟩ hback
    simp only [Z6.b65]
    refine CondB.dec (fun hlt => ?_) fun hge => ?_
    · have hil : i < D.length := by omega
      have ei : IntKind.wrap .i64 ((i : Int) + 1) = ((i + 1 : Nat) : Int) := (wrap64 (by omega) (by omega)).trans (by omega)
      have hcl : (D.take i).count c.bound ≤ i := by
        have := List.count_le_length (l := D.take i) (a := c.bound)
        rw [List.length_take] at this
        omega
      refine rdI hrs hil (FA.mk (Ld.oi o1 rfl (CondB.eq (fun he => hback (D.length - (i + 1)) _ _ (by omega) ⟨i + 1, by omega, rfl, tc rfl (tc rfl (tc ?_ (tc rfl (tc rfl (tc ei rfl))))), rfl⟩) fun hne => hback (D.length - (i + 1)) _ _ (by omega) ⟨i + 1, by omega, rfl, tc rfl (tc rfl (tc ?_ (tc rfl (tc rfl (tc ei rfl))))), rfl⟩)))
      · show IntKind.wrap .i64 (((D.take i).count c.bound : Int) + 1) = _
        rw [wrap64 (by omega) (by omega), count_step hil, if_pos he]
      · show ((D.take i).count c.bound : Int) = _
        rw [count_step hil, if_neg hne]; omega
    · have hil : i = D.length := by omega
      subst hil
      rw [List.take_length]
      exact Ld.oc ox rfl (rd0 ⟨by rw [beq_iff_eq], kk⟩)
  · rw [if_pos (.inr e9)] at hcs
    rw [if_pos e9] at hns
    refine Ld.o7 o1 c.k sv sc sn c.rel c.bound st rfl (Ld.oc ox rfl (RunT.imp ?_ (loads_c h2 hx2 (by omega) (by omega) (by omega))))
    rintro H3 (q : Bool) ⟨hq, k3⟩
    refine ⟨?_, kk.trans k3⟩
    unfold holdsP
    rw [if_neg (by omega), if_neg (by omega), if_neg (by omega), if_neg (by omega), if_neg (by omega), if_neg (by omega), if_neg (by omega), if_neg (by omega), if_pos e9]
    exact hq
  · have e10 : c.k = 10 := by omega
    rw [if_neg (by omega), if_pos e10] at hcs
    have hP : holdsP c x ↔ (x.getD 0 0 = 1 ∧ relB (sumN c.cs (x.drop 1) (x.length - 1)) c.rel c.bound = true) ∨ (x.getD 0 0 = 0 ∧ relB (sumN c.cs (x.drop 1) (x.length - 1)) c.rel c.bound = false) := by
      unfold holdsP
      rw [if_neg (by omega), if_neg (by omega), if_neg (by omega), if_neg (by omega), if_neg (by omega), if_neg (by omega), if_neg (by omega), if_neg (by omega), if_neg (by omega)]
    rw [hP]
    obtain ⟨r, hr, hrs, p, cap, rfl⟩ := suf_slice hx2 (by omega)
    refine FA.mk (Ld.oc o1 rfl (Ld.oc ox rfl (Slc.mk hr (RunT.imp ?_ (sum_c h2.rc hrs (by rw [List.length_drop]; omega) (by omega))))))
    rintro H3 (q : Int) ⟨e, rfl⟩
    obtain rfl : H2 = H3 := e.symm
    refine FA.mk (Ld.oi o1 rfl (FA.mk (Ld.oi o1 rfl (RunT.imp ?_ compared_c))))
    rintro H4 (q : Bool) ⟨e, rfl⟩
    obtain rfl : H2 = H4 := e.symm
    rw [show c.cs.length = x.length - 1 from by omega]
    obtain ⟨R, hR⟩ : ∃ R, R = relB (sumN c.cs (x.drop 1) (x.length - 1)) c.rel c.bound := ⟨_, rfl⟩
    rw [← hR]
    obtain ⟨z, hz⟩ : ∃ z, z = x.getD 0 0 := ⟨_, rfl⟩
    have rz : ∀ {k : Int → Prop}, k z → IA 1 sx 0 fun p => Ld [.int .i64] H2 p fun (v : Int) => k v := fun {k} q => rd0 (by rw [← hz]; exact q)
    rw [← hz]
    refine ⟨Same2.mk rfl, Same2.mk rfl, Ld.oc ox rfl (rz (CondB.eq (fun z1 => CondB.mk (fun ht => ⟨⟨fun _ => .inl ⟨z1, ht⟩, fun _ => by trivial⟩, kk⟩) fun ht => Ld.oc ox rfl (rz (CondB.eq (fun z0 => by omega) fun z0 => ⟨⟨fun e => (by cases e), ?_⟩, kk⟩))) fun z1 => Ld.oc ox rfl (rz (CondB.eq (fun z0 => ⟨⟨fun e => .inr ⟨z0, by simpa using e⟩, ?_⟩, kk⟩) fun z0 => ⟨⟨fun e => (by cases e), ?_⟩, kk⟩))))⟩
    · rintro (⟨_, e⟩ | ⟨e, _⟩)
      · rw [ht] at e; cases e
      · exact absurd e z0
    · rintro (⟨e, _⟩ | ⟨_, e⟩)
      · exact absurd e z1
      · rw [e]; rfl
    · rintro (⟨e, _⟩ | ⟨e, _⟩)
      · exact absurd e z1
      · exact absurd e z0
end Go.Proofs.YtkpjcnlljdccjaaGreat
end
section
namespace Go.Proofs.YtkpjcnlljdccjaaGreat
open Go.AI Go.Lib
set_option linter.unusedVariables false
theorem scanV_ok {k vars : Int} : ∀ (l seen : List Int), scanV k vars seen l = 0 → ∀ v ∈ l, 0 ≤ v ∧ v < vars
  | [], _, _, v, hv => by cases hv
  | u :: r, seen, h, v, hv => by
    unfold scanV at h
    split at h
    · cases h
    split at h
    · cases h
    rcases List.mem_cons.1 hv with rfl | hv
    · omega
    · exact scanV_ok r _ h v hv
def valsOf (c : Cn) (vals : List Int) : List Int := c.vs.map fun v => vals.getD v.toNat 0
theorem fit_of {c : Cn} {vals : List Int} (h : cFault c vals.length = 0) (hr : ∀ v ∈ vals, -16384 ≤ v ∧ v ≤ 16384) : Fit c (valsOf c vals) := by
  obtain ⟨h1, h2, h3, h4, h5, h6, h7⟩ := cFault_ok h
  refine ⟨⟨h1, h2⟩, h3, h5, h7, List.length_map _, fun v hv => ?_⟩
  obtain ⟨u, hu, rfl⟩ := List.mem_map.1 hv
  have := scanV_ok _ _ h4 u hu
  exact hr _ (List.mem_of_getElem? (at_getD (show u.toNat < vals.length by omega)))
end Go.Proofs.YtkpjcnlljdccjaaGreat
end
section
namespace Go.Proofs.YtkpjcnlljdccjaaGreat
open Go.AI Go.Lib
set_option linter.unusedVariables false
theorem lt41 : 41 < Tryz.prog.funcs.size := (Array.getElem?_eq_some_iff.1 Tryz.func41).1
open Classical in
noncomputable def satB (c : Cn) (vals : List Int) : Bool := if cFault c vals.length ≠ 0 then false else if ∃ v ∈ vals, ¬ (-16384 ≤ v ∧ v ≤ 16384) then false else decide (holdsP c (valsOf c vals))
open Classical in
noncomputable def satE (c : Cn) (vals : List Int) : Int := if cFault c vals.length ≠ 0 then cFault c vals.length else if ∃ v ∈ vals, ¬ (-16384 ≤ v ∧ v ≤ 16384) then 1 else 0
theorem bIff {q : Bool} {p : Prop} {inst : Decidable p} (h : q = true ↔ p) : q = decide p := by
  cases q with
  | true => exact (decide_eq_true (h.1 rfl)).symm
  | false => exact (decide_eq_false fun hp => by cases h.2 hp).symm
theorem pre_step {V : List Int} {i : Nat} (h : i < V.length) : (V.take i ++ List.replicate (V.length - i) 0).set i (V.getD i 0) = V.take (i + 1) ++ List.replicate (V.length - (i + 1)) 0 := by
  have e : V.length - i = (V.length - (i + 1)) + 1 := by omega
  have hl : (V.take i).length = i := by rw [List.length_take]; omega
  rw [e, List.replicate_succ, List.set_append_right _ _ (by omega), hl, Nat.sub_self, List.set_cons_zero, List.take_add_one, at_getD h]
  simp
theorem valsOf_at {c : Cn} {vals : List Int} {i : Nat} {v : Int} (h : c.vs[i]? = some v) : (valsOf c vals).getD i 0 = vals.getD v.toNat 0 := by
  refine getD_at ?_
  unfold valsOf
  rw [List.getElem?_map, h]; rfl
theorem Satisfies_c {c : Cn} {vals : List Int} {sv sc sn st sx : AC} {H : AHeap} (h : CIn H c sv sc sn st) (hx : SlR H sx 1 (iRows vals)) (hl : vals.length ≤ 9223372036854775807) (hw : GW H) :
    Fn.Z1 c.k sv sc sn c.rel c.bound st sx H fun H' q e => q = satB c vals ∧ e = satE c vals ∧ Kp H H' := by
  refine Z1.run ?_
  unfold Z1.W satB satE
  refine New.own fun b H1 hb hs1 o1 k1 => Ld.o7 o1 c.k sv sc sn c.rel c.bound st rfl (LenS.of (hx.kp k1) ?_)
  rw [iRows_len]
  refine RunT.imp ?_ (CheckConstraint_c (h.kp k1))
  rintro H2 (q : Int) ⟨rfl, k2⟩
  have k12 := k1.trans k2
  refine CondB.ne (fun hf => ?_) fun hf => ?_
  · rw [if_pos hf, if_pos hf]
    exact ⟨rfl, rfl, k12⟩
  rw [if_neg (show ¬ cFault c vals.length ≠ 0 by omega), if_neg (show ¬ cFault c vals.length ≠ 0 by omega)]
  obtain ⟨c1, c2, c3, c4, c5, c6, c7⟩ := cFault_ok hf
  refine Z27.run ?_
  unfold Z27.W
  refine RunT.imp ?_ (IndexFuncI_c (f := fun p => !decide (-16384 ≤ p ∧ p ≤ 16384)) (hx.kp k12) hl fun p H3 k3 => CVT.mk lt41 ?_)
  rotate_left
  · refine Z2.run ?_
    unfold Z2.W
    refine RunT.imp ?_ within_c
    rintro H4 (q : Bool) ⟨e, hq⟩
    obtain rfl : H3 = H4 := e.symm
    refine ⟨Kp.refl _, ?_⟩
    by_cases hp : -16384 ≤ p ∧ p ≤ 16384
    · rw [hq.2 hp, decide_eq_true hp]
    · rw [decide_eq_false hp]
      cases q with
      | false => rfl
      | true => exact absurd (hq.1 rfl) hp
  rintro H3 (q : Int) ⟨k3, hq⟩
  have k13 := k12.trans k3
  have ex : 0 ≤ q ↔ ∃ v ∈ vals, ¬ (-16384 ≤ v ∧ v ≤ 16384) := by
    rw [hq]
    constructor
    · rintro ⟨p, hp, e⟩
      exact ⟨p, hp, fun hh => by rw [decide_eq_true hh] at e; cases e⟩
    · rintro ⟨p, hp, e⟩
      exact ⟨p, hp, by rw [decide_eq_false e]; rfl⟩
  refine CondB.dec (fun hge => ?_) fun hlt => ?_
  · rw [if_pos (ex.1 hge), if_pos (ex.1 hge)]
    exact ⟨rfl, rfl, k13⟩
  have hno : ¬ ∃ v ∈ vals, ¬ (-16384 ≤ v ∧ v ≤ 16384) := fun hh => hlt (ex.2 hh)
  rw [if_neg hno, if_neg hno]
  have hr : ∀ v ∈ vals, -16384 ≤ v ∧ v ≤ 16384 := fun v hv => Classical.byContradiction fun hh => hno ⟨v, hv, hh⟩
  have fit := fit_of hf hr
  obtain ⟨n1, n2, -, -, -, -⟩ := fit.n
  have hV : (valsOf c vals).length = c.vs.length := List.length_map _
  have k23 := k2.trans k3
  have o3 := o1.kp k23
  refine FA.mk (Ld.oc o3 rfl (LenS.of (h.kp k13).rv ?_))
  rw [iRows_len]
  refine MkS.own (by omega) (by omega) fun bx H4 hbx hs4 ox k4 => ?_
  have o4 := o3.kp k4
  refine FA.mk (Ld.oc o4 rfl (LenS.of (h.kp (k13.trans k4)).rv ?_))
  rw [iRows_len]
  unfold Z1.l26
  refine LoopT.rule (fun m s0 H5 => ∃ i : Nat, i ≤ c.vs.length ∧ m = c.vs.length - i ∧ s0 = (sx, .ptr (some (b, 0)), .sl (some (bx, 0)) 1 c.vs.length (some c.vs.length), sv, (c.vs.length : Int), (i : Int), ()) ∧ Kp H3 H5 ∧ Own H5 bx (((valsOf c vals).take i ++ List.replicate (c.vs.length - i) 0).map (AC.int .i64))) c.vs.length ⟨0, by omega, by omega, rfl, k4, ?_⟩ ?_
  · rw [List.take_zero, List.nil_append, List.map_replicate]
    exact ox
  rintro m s0 H5 back ⟨i, hi, rfl, rfl, k5, o5⟩ hback
  simp only [Z1.b26]
  refine CondB.dec (fun hlt => ?_) fun hge => ?_
  · have hil : i < c.vs.length := by omega
    obtain ⟨v, hv⟩ : ∃ v, c.vs[i]? = some v := ⟨_, List.getElem?_eq_getElem hil⟩
    have hvr := scanV_ok _ _ c4 v (List.mem_of_getElem? hv)
    refine IA.of (h.kp (k13.trans k5)).rv (by omega) (by rw [Int.toNat_natCast]; exact iRow_at hv) fun b1 a1 hld => ldRow hld ?_
    refine IA.of (hx.kp (k13.trans k5)) hvr.1 (iRow_at (at_getD (show v.toNat < vals.length by omega))) fun b2 a2 hld2 => ldRow hld2 ?_
    refine IA.mk (by omega) (by omega) (Sto.cell o5 ?_ fun H6 o6 k6 hs6 => ?_)
    · rw [List.length_map, List.length_append, List.length_take, List.length_replicate]; omega
    · refine hback (c.vs.length - (i + 1)) _ _ (by omega) ⟨i + 1, by omega, rfl, tc rfl (tc rfl (tc rfl (tc rfl (tc rfl (tc ((wrap64 (by omega) (by omega)).trans (by omega)) rfl))))), k5.fresh k6 (fun y e => by have e' : y = bx := e; omega), ?_⟩
      have e1 : 0 + (i : Int).toNat * 1 = i := by omega
      rw [e1, ← valsOf_at hv, ← List.map_set, ← hV, pre_step (by omega)] at o6
      rw [← hV]
      exact o6
  · have hil : i = c.vs.length := by omega
    subst hil
    have k15 := k13.trans k5
    rw [Nat.sub_self, List.replicate_zero, List.append_nil, ← hV, List.take_length] at o5
    have hsx : SlR H5 (.sl (some (bx, 0)) 1 c.vs.length (some c.vs.length)) 1 (iRows (valsOf c vals)) := by
      have := o5.slr (some c.vs.length)
      rw [List.length_map, hV, List.map_map] at this
      exact this
    refine Ld.o7 (o3.kp k5) c.k sv sc sn c.rel c.bound st rfl (RunT.imp ?_ (holds_c (h.kp k15) hsx fit (k15.gw.1 hw)))
    rintro H6 (q : Bool) ⟨hq, k6⟩
    exact ⟨bIff hq, trivial, k15.trans k6⟩
end Go.Proofs.YtkpjcnlljdccjaaGreat
end
section
namespace Go.Proofs.YtkpjcnlljdccjaaGreat
open Go.AI Go.Lib
set_option linter.unusedVariables false
theorem Satisfied_c {c : Cn} {vals : List Int} {sv sc sn st sx : AC} {H : AHeap} (h : CIn H c sv sc sn st) (hx : SlR H sx 1 (iRows vals)) (hl : vals.length ≤ 9223372036854775807) (hw : GW H) :
    Fn.Z17 c.k sv sc sn c.rel c.bound st sx H fun H' q e => q = satB c vals ∧ e = satE c vals ∧ Kp H H' := by
  refine Z17.run ?_
  unfold Z17.W satB satE
  refine New.own fun b H1 hb hs1 o1 k1 => Ld.o7 o1 c.k sv sc sn c.rel c.bound st rfl (LenS.of (hx.kp k1) ?_)
  rw [iRows_len]
  refine RunT.imp ?_ (Fault_c (h.kp k1))
  rintro H2 (q : Int) ⟨rfl, k2⟩
  have k12 := k1.trans k2
  refine CondB.ne (fun hf => ?_) fun hf => ?_
  · rw [if_pos hf, if_pos hf]
    exact ⟨rfl, rfl, k12⟩
  rw [if_neg (show ¬ cFault c vals.length ≠ 0 by omega), if_neg (show ¬ cFault c vals.length ≠ 0 by omega)]
  obtain ⟨c1, c2, c3, c4, c5, c6, c7⟩ := cFault_ok hf
  have o2 := o1.kp k2
  have h2 := h.kp k12
  have hx2 := hx.kp k12
  unfold Z17.l16
  refine LoopT.rule (fun m s0 H3 => ∃ i : Nat, i ≤ vals.length ∧ m = vals.length - i ∧ s0 = (sx, .ptr (some (b, 0)), (i : Int), ()) ∧ H3 = H2 ∧ ∀ v ∈ vals.take i, -16384 ≤ v ∧ v ≤ 16384) vals.length ⟨0, by omega, by omega, rfl, rfl, fun v hv => by cases hv⟩ ?_
  rintro m s0 H3 back ⟨i, hi, rfl, rfl, rfl, hall⟩ hback
  simp only [Z17.b16]
  refine LenS.of hx2 ?_
  rw [iRows_len]
  refine CondB.dec (fun hlt => ?_) fun hge => ?_
  · have hil : i < vals.length := by omega
    obtain ⟨v, hv⟩ : ∃ v, vals[i]? = some v := ⟨_, List.getElem?_eq_getElem hil⟩
    refine IA.of hx2 (by omega) (by rw [Int.toNat_natCast]; exact iRow_at hv) fun b1 a1 hld => ldRow hld (RunT.imp ?_ rwithin_c)
    rintro H4 (q : Bool) ⟨e, hq⟩
    obtain rfl : H3 = H4 := e.symm
    cases hq' : q with
    | false =>
      have ex : ∃ v ∈ vals, ¬ (-16384 ≤ v ∧ v ≤ 16384) := ⟨v, List.mem_of_getElem? hv, fun hh => by rw [hq.2 hh] at hq'; cases hq'⟩
      rw [if_pos ex, if_pos ex]
      exact CondB.pos rfl ⟨rfl, rfl, k12⟩
    | true =>
      refine CondB.neg rfl (hback (vals.length - (i + 1)) _ _ (by omega) ⟨i + 1, by omega, rfl, tc rfl (tc rfl (tc ((wrap64 (by omega) (by omega)).trans (by omega)) rfl)), rfl, ?_⟩)
      intro u hu
      rw [List.take_add_one, hv] at hu
      rcases List.mem_append.1 hu with hu | hu
      · exact hall u hu
      · rw [List.mem_singleton.1 hu]
        exact hq.1 hq'
  have hil : i = vals.length := by omega
  subst hil
  rw [List.take_length] at hall
  have hno : ¬ ∃ v ∈ vals, ¬ (-16384 ≤ v ∧ v ≤ 16384) := fun ⟨v, hv, hn⟩ => hn (hall v hv)
  rw [if_neg hno, if_neg hno]
  have fit := fit_of hf hall
  obtain ⟨n1, n2, -, -, -, -⟩ := fit.n
  have hV : (valsOf c vals).length = c.vs.length := List.length_map _
  unfold Z17.l39
  refine LoopT.rule (fun m s0 H5 => ∃ (i : Nat) (s : AC) (F : Nat → Prop), i ≤ c.vs.length ∧ m = c.vs.length - i ∧ s0 = (sx, .ptr (some (b, 0)), s, (i : Int), ()) ∧ Kp H3 H5 ∧ OwnS H5 s 1 F (iRows ((valsOf c vals).take i)) ∧ ∀ y, F y → H3.size ≤ y) c.vs.length ⟨0, _, fun _ => False, by omega, by omega, rfl, Kp.refl _, OwnS.nil _ _, fun y h => h.elim⟩ ?_
  rintro m s0 H5 back ⟨i, s, F, hi, rfl, rfl, k5, ho5, hF⟩ hback
  simp only [Z17.b39]
  have k15 := k12.trans k5
  have o5 := o2.kp k5
  refine FA.mk (Ld.oc o5 rfl (LenS.of (h.kp k15).rv ?_))
  rw [iRows_len]
  refine CondB.dec (fun hlt => ?_) fun hge => ?_
  · have hil : i < c.vs.length := by omega
    obtain ⟨v, hv⟩ : ∃ v, c.vs[i]? = some v := ⟨_, List.getElem?_eq_getElem hil⟩
    have hvr := scanV_ok _ _ c4 v (List.mem_of_getElem? hv)
    refine FA.mk (Ld.oc o5 rfl (IA.of (h.kp k15).rv (by omega) (by rw [Int.toNat_natCast]; exact iRow_at hv) fun b1 a1 hld => ldRow hld ?_))
    refine IA.of (hx.kp k15) hvr.1 (iRow_at (at_getD (show v.toNat < vals.length by omega))) fun b2 a2 hld2 => ldRow hld2 (NewS.own fun b6 H6 hb6 hs6 o6 k6 => ?_)
    have htl : ((valsOf c vals).take i).length = i := by rw [List.length_take]; omega
    refine App.own (ho5.kp k6) (r := [AC.int .i64 (vals.getD v.toNat 0)]) ⟨b6, _, rfl, o6.all⟩ rfl (by rw [iRows_len]; omega) (by rw [iRows_len]; omega) fun s' H7 ho7 k7 hs7 => ?_
    have hz := k5.size
    have hz6 := k6.size
    refine hback (c.vs.length - (i + 1)) _ _ (by omega) ⟨i + 1, s', fun y => F y ∨ y = H6.size, by omega, rfl, ?_, (k5.trans k6).fresh k7 hF, ?_, fun y h => h.elim (hF y) fun e => by omega⟩
    · exact tc rfl (tc rfl (tc rfl (tc ((wrap64 (by omega) (by omega)).trans (by omega)) rfl)))
    · have e : iRows ((valsOf c vals).take (i + 1)) = iRows ((valsOf c vals).take i) ++ [[AC.int .i64 (vals.getD v.toNat 0)]] := by
        rw [List.take_add_one, at_getD (show i < (valsOf c vals).length by omega), valsOf_at hv]
        unfold iRows
        rw [List.map_append]; rfl
      rw [e]
      exact ho7
  · have hil : i = c.vs.length := by omega
    subst hil
    rw [← hV, List.take_length] at ho5
    refine Ld.o7 o5 c.k sv sc sn c.rel c.bound st rfl (RunT.imp ?_ (rHolds_c (h.kp k15) ho5.slr fit))
    rintro H6 (q : Bool) ⟨hq, k6⟩
    exact ⟨bIff hq, trivial, k15.trans k6⟩
end Go.Proofs.YtkpjcnlljdccjaaGreat
end
section
namespace Go.Proofs.YtkpjcnlljdccjaaGreat
open Go.AI
theorem good_ints {D : Type} {H : AHeap} {n : Nat} {cs : List AC} {d : DataW D} (h : AI.Good Tryz.prog H n 28 cs d) : ∃ (s : AC) (l : List Int), cs = [s] ∧ SlR H s 1 (iRows l) ∧ l.length ≤ 9223372036854775807 := by
  obtain ⟨s, l, rfl, hs, hl, _, _⟩ := good_rows (enc := fun x : Int => [AC.int .i64 x]) (R := fun _ => True) Tryz.underlying28 (fun _ => rfl) cells3 (fun m _ cs d h => by obtain ⟨i, e, _⟩ := good_i Tryz.underlying3 h; exact ⟨i, e, trivial⟩) h
  exact ⟨s, l, rfl, hs, by unfold maxLen at hl; omega⟩
end Go.Proofs.YtkpjcnlljdccjaaGreat
end
section
namespace Go.Proofs.YtkpjcnlljdccjaaGreat
open Go.AI
set_option linter.unusedVariables false
theorem lists_of {Pr : AC → List Int → Prop} : ∀ hs : List AC, (∀ h ∈ hs, ∃ l, Pr h l) → ∃ ls : List (List Int), hs.length = ls.length ∧ ∀ (i : Nat) (h : AC) (l : List Int), hs[i]? = some h → ls[i]? = some l → Pr h l
  | [], _ => ⟨[], rfl, fun i h l e => by simp at e⟩
  | h :: hs, k => by
    obtain ⟨l, hl⟩ := k h (List.mem_cons_self ..)
    obtain ⟨ls, e, hls⟩ := lists_of hs fun x hx => k x (List.mem_cons_of_mem _ hx)
    refine ⟨l :: ls, by simp [e], fun i x y a b => ?_⟩
    cases i with
    | zero =>
      simp only [List.getElem?_cons_zero, Option.some.injEq] at a b
      subst a b
      exact hl
    | succ i =>
      simp only [List.getElem?_cons_succ] at a b
      exact hls i x y a b
theorem cells28 : Tryz.prog.cellsOf 28 = 1 := by decide +kernel
theorem good_lists {D : Type} {H : AHeap} {n : Nat} {cs : List AC} {d : DataW D} (h : AI.Good Tryz.prog H n 42 cs d) : ∃ (s : AC) (ls : List (List Int)), cs = [s] ∧ SlL H s ls ∧ ls.length ≤ 9223372036854775807 ∧ ∀ l ∈ ls, l.length ≤ 9223372036854775807 := by
  obtain ⟨s, hs, rfl, h1, hl, hR, _⟩ := good_rows (enc := fun x : AC => [x]) (R := fun x => ∃ l : List Int, SlR H x 1 (iRows l) ∧ l.length ≤ 9223372036854775807) Tryz.underlying42 (fun _ => rfl) cells28 (fun m _ cs d h => by
    obtain ⟨s, l, rfl, a, b⟩ := good_ints h
    exact ⟨s, rfl, l, a, b⟩) h
  obtain ⟨ls, e, hls⟩ := lists_of hs hR
  refine ⟨s, ls, rfl, ⟨hs, h1, e, fun i x l a b => (hls i x l a b).1⟩, by unfold maxLen at hl; omega, fun l hl' => ?_⟩
  obtain ⟨i, hi, hil⟩ := List.getElem_of_mem hl'
  have a : hs[i]? = some hs[i] := List.getElem?_eq_getElem (by omega)
  exact (hls i _ l a (by rw [List.getElem?_eq_getElem hi, hil])).2
theorem good_cn {D : Type} {H : AHeap} {n : Nat} {cs : List AC} {d : DataW D} (h : AI.Good Tryz.prog H n 44 cs d) :
    ∃ (c : Cn) (sv sc sn st : AC), cs = [.int .i64 c.k, sv, sc, sn, .int .i64 c.rel, .int .i64 c.bound, st] ∧ CIn H c sv sc sn st := by
  obtain ⟨m, ds, rfl, rfl, hF⟩ := good_st Tryz.underlying44 h
  obtain ⟨d1, ds1, a1, b1, rfl, rfl, g1, hF⟩ := goodF_c hF
  obtain ⟨d2, ds2, a2, b2, rfl, rfl, g2, hF⟩ := goodF_c hF
  obtain ⟨d3, ds3, a3, b3, rfl, rfl, g3, hF⟩ := goodF_c hF
  obtain ⟨d4, ds4, a4, b4, rfl, rfl, g4, hF⟩ := goodF_c hF
  obtain ⟨d5, ds5, a5, b5, rfl, rfl, g5, hF⟩ := goodF_c hF
  obtain ⟨d6, ds6, a6, b6, rfl, rfl, g6, hF⟩ := goodF_c hF
  obtain ⟨d7, ds7, a7, b7, rfl, rfl, g7, hF⟩ := goodF_c hF
  obtain ⟨rfl, rfl⟩ := goodF_n hF
  obtain ⟨k, rfl, _⟩ := good_i Tryz.underlying3 g1
  obtain ⟨sv, vs, rfl, e2, l2⟩ := good_ints g2
  obtain ⟨sc, vc, rfl, e3, l3⟩ := good_ints g3
  obtain ⟨sn, vn, rfl, e4, l4⟩ := good_ints g4
  obtain ⟨r, rfl, _⟩ := good_i Tryz.underlying3 g5
  obtain ⟨o, rfl, _⟩ := good_i Tryz.underlying3 g6
  obtain ⟨st, ls, rfl, e7, l7, l8⟩ := good_lists g7
  exact ⟨⟨k, vs, vc, vn, r, o, ls⟩, sv, sc, sn, st, rfl, e2, e3, e4, e7, l2, l3, l4, l7, l8⟩
def simpleTs5 : List TypeId := [44, 28, 42, 3]
theorem simple_ok5 : ∀ t ∈ simpleTs5, AI.simpleT Tryz.prog simpleTs5 t = true := by
  have h : simpleTs5.all (AI.simpleT Tryz.prog simpleTs5) = true := by decide +kernel
  exact List.all_eq_true.1 h
end Go.Proofs.YtkpjcnlljdccjaaGreat
end
section
namespace Go.Proofs.YtkpjcnlljdccjaaGreat
open Go.AI
set_option linter.unusedVariables false
theorem law5_c {c : Cn} {vars : Int} {vals : List Int} {sv sc sn st sx : AC} {H : AHeap} (h : CIn H c sv sc sn st) (hx : SlR H sx 1 (iRows vals)) (hl : vals.length ≤ 9223372036854775807) (hw : GW H) :
    Fn.Z14 c.k sv sc sn c.rel c.bound st vars sx H fun H' q => q = true ∧ Kp H H' := by
  refine Z14.run ?_
  unfold Z14.W
  refine New.own fun b H1 hb hs1 o1 k1 => Ld.o7 o1 c.k sv sc sn c.rel c.bound st rfl ?_
  refine RunT.imp ?_ (Satisfies_c (h.kp k1) (hx.kp k1) hl (k1.gw.1 hw))
  rintro H2 (q2 : Bool) (e2 : Int) ⟨hq2, he2, k2⟩
  have k12 := k1.trans k2
  have o2 := o1.kp k2
  refine Ld.o7 o2 c.k sv sc sn c.rel c.bound st rfl (RunT.imp ?_ (Satisfied_c (h.kp k12) (hx.kp k12) hl (k12.gw.1 hw)))
  rintro H3 (q3 : Bool) (e3 : Int) ⟨hq3, he3, k3⟩
  have k13 := k12.trans k3
  have o3 := o2.kp k3
  refine Ld.o7 o3 c.k sv sc sn c.rel c.bound st rfl (RunT.imp ?_ (CheckConstraint_c (vars := vars) (h.kp k13)))
  rintro H4 (e4 : Int) ⟨he4, k4⟩
  have k14 := k13.trans k4
  have o4 := o3.kp k4
  refine Ld.o7 o4 c.k sv sc sn c.rel c.bound st rfl (RunT.imp ?_ (Fault_c (vars := vars) (h.kp k14)))
  rintro H5 (e5 : Int) ⟨he5, k5⟩
  have k15 := k14.trans k5
  refine CondB.pos (by rw [he4, he5]; simp) (CondB.pos (by rw [he2, he3]; simp) (CondB.pos (by rw [hq2, hq3]; simp) ?_))
  refine RunT.imp ?_ labelled_c
  rintro H6 (q : Bool) ⟨rfl, k6⟩
  exact ⟨Same2.mk (o3.all.trans o4.all.symm), rfl, k15.trans k6⟩
end Go.Proofs.YtkpjcnlljdccjaaGreat
end
