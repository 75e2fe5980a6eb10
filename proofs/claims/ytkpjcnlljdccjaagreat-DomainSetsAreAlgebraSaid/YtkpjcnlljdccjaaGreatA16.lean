/- Joined by a program: what the proof of the law leans on, part 16. -/
import Derived.Test.YtkpjcnlljdccjaaGreatA15
set_option linter.unusedVariables false
set_option linter.unusedSimpArgs false
section
namespace Go.Proofs.YtkpjcnlljdccjaaGreat
open Go.AI
set_option linter.unusedVariables false
theorem lt37 : 37 < Tryz.prog.funcs.size := (Array.getElem?_eq_some_iff.1 Tryz.func37).1
theorem lt38 : 38 < Tryz.prog.funcs.size := (Array.getElem?_eq_some_iff.1 Tryz.func38).1
theorem lt39 : 39 < Tryz.prog.funcs.size := (Array.getElem?_eq_some_iff.1 Tryz.func39).1
theorem exN : ∃ N : Nat, N = 32769 := ⟨_, rfl⟩
noncomputable def maxN : Nat := Classical.choose exN
theorem maxN_eq : maxN = 32769 := Classical.choose_spec exN
def opW (w : Int) (a b : Bool) : Bool := if w = 0 then a || b else if w = 1 then a && b else a && !b
def inJ (l : List Sp) (j : Nat) : Bool := decide (inS l ((j : Int) - 16384))
noncomputable def setW (w : Int) (la lb : List Sp) : List Sp := spOf (pk (fun j => opW w (inJ la j) (inJ lb j)) maxN)
theorem pk_norm (g : Nat → Bool) (n : Nat) : Norm (spOf (pk g n)) ∧ ∀ v, inS (spOf (pk g n)) v ↔ ∃ j, j < n ∧ g j = true ∧ v = (j : Int) - 16384 := by
  obtain ⟨h1, h2⟩ := spOf_all (pk_asc g n)
  exact ⟨h1, fun v => by rw [h2, pk_mem]⟩
theorem setW_norm (w : Int) (la lb : List Sp) : Norm (setW w la lb) := (pk_norm _ _).1
theorem opW_in {w : Int} {la lb : List Sp} (oa : DOk la) (ob : DOk lb) (v : Int) : inS (setW w la lb) v ↔ opW w (decide (inS la v)) (decide (inS lb v)) = true := by
  unfold setW
  rw [(pk_norm _ _).2, maxN_eq]
  constructor
  · rintro ⟨j, _, h, rfl⟩
    exact h
  · intro h
    have hb : -16384 ≤ v ∧ v ≤ 16384 := by
      unfold opW at h
      by_cases ha : inS la v
      · exact oa.inb ha
      · by_cases hb : inS lb v
        · exact ob.inb hb
        · rw [decide_eq_false ha, decide_eq_false hb] at h
          split at h
          · cases h
          split at h <;> cases h
    refine ⟨(v + 16384).toNat, by omega, ?_, by omega⟩
    unfold inJ
    rw [show (((v + 16384).toNat : Int) - 16384) = v from by omega]
    exact h
noncomputable def bErr (w : Int) (la lb : List Sp) : Int := if dFlt la ≠ 0 then dFlt la else if dFlt lb ≠ 0 then dFlt lb else fitErr (setW w la lb)
noncomputable def bRows (w : Int) (la lb : List Sp) : List Sp := if dFlt la ≠ 0 then [] else if dFlt lb ≠ 0 then [] else fitRows (setW w la lb)
theorem both_c {sa sb fn : AC} {la lb : List Sp} {w : Int} {H : AHeap} (ha : SlR H sa 2 (spRows la)) (hb : SlR H sb 2 (spRows lb)) (hla : la.length ≤ 9223372036854775807) (hlb : lb.length ≤ 9223372036854775807)
    (hf : ∀ (H2 : AHeap), Kp H H2 → DOk la → DOk lb → CVT Tryz.prog [(false, [.ac])] fn [(.one sa), (.one sb)] H2 fun H3 (q : AC) => SetR H2 q (fun v => opW w (decide (inS la v)) (decide (inS lb v)) = true) H3 ∧ Kp H2 H3) :
    Fn.Z6 sa sb fn H fun H' q e => e = bErr w la lb ∧ SlR H' q 2 (spRows (bRows w la lb)) ∧ Kp H H' := by
  refine Z6.run ?_
  unfold Z6.W bErr bRows
  refine RunT.imp ?_ (Check_c ha hla)
  rintro H1 (q : Int) ⟨rfl, k1⟩
  refine CondB.ne (fun h => ?_) fun h1 => ?_
  · rw [if_pos h, if_pos h]
    exact ⟨rfl, slr_none _ _, k1⟩
  rw [if_neg (show ¬ dFlt la ≠ 0 by omega), if_neg (show ¬ dFlt la ≠ 0 by omega)]
  refine RunT.imp ?_ (Check_c (hb.kp k1) hlb)
  rintro H2 (q : Int) ⟨rfl, k2⟩
  have k12 := k1.trans k2
  refine CondB.ne (fun h => ?_) fun h2 => ?_
  · rw [if_pos h, if_pos h]
    exact ⟨rfl, slr_none _ _, k12⟩
  rw [if_neg (show ¬ dFlt lb ≠ 0 by omega), if_neg (show ¬ dFlt lb ≠ 0 by omega)]
  have oa := dFlt_ok h1
  have ob := dFlt_ok h2
  refine CVT.imp ?_ (hf H2 k12 oa ob)
  rintro H3 (q : AC) ⟨⟨F, m, ho, hF, hn, hm, hlen⟩, k3⟩
  have e : m = setW w la lb := norm_eq hn (setW_norm w la lb) fun v => by rw [hm v, opW_in oa ob]
  subst e
  refine RunT.imp ?_ (fits_c ho (by omega))
  rintro H4 (q2 : AC) (e : Int) ⟨he, hq, k4⟩
  exact ⟨he, hq, (k12.trans k3).trans k4⟩
theorem Join_c {sa sb : AC} {la lb : List Sp} {H : AHeap} (ha : SlR H sa 2 (spRows la)) (hb : SlR H sb 2 (spRows lb)) (hla : la.length ≤ 9223372036854775807) (hlb : lb.length ≤ 9223372036854775807) (hw : GW H) :
    Fn.Z2 sa sb H fun H' q e => e = bErr 0 la lb ∧ SlR H' q 2 (spRows (bRows 0 la lb)) ∧ Kp H H' := by
  refine Z2.run ?_
  unfold Z2.W
  refine both_c ha hb hla hlb fun H2 k2 oa ob => CVT.mk lt37 (RunT.imp ?_ (join_c (ha.kp k2) (hb.kp k2) oa ob (k2.gw.1 hw)))
  rintro H3 (q : AC) ⟨⟨F, m, h1, h2, h3, h4, h5⟩, k3⟩
  refine ⟨⟨F, m, h1, h2, h3, fun v => ?_, h5⟩, k3⟩
  rw [h4 v]
  simp [opW]
theorem Meet_c {sa sb : AC} {la lb : List Sp} {H : AHeap} (ha : SlR H sa 2 (spRows la)) (hb : SlR H sb 2 (spRows lb)) (hla : la.length ≤ 9223372036854775807) (hlb : lb.length ≤ 9223372036854775807) :
    Fn.Z3 sa sb H fun H' q e => e = bErr 1 la lb ∧ SlR H' q 2 (spRows (bRows 1 la lb)) ∧ Kp H H' := by
  refine Z3.run ?_
  unfold Z3.W
  refine both_c ha hb hla hlb fun H2 k2 oa ob => CVT.mk lt38 (RunT.imp ?_ (meet_c (ha.kp k2) (hb.kp k2) oa ob))
  rintro H3 (q : AC) ⟨⟨F, m, h1, h2, h3, h4, h5⟩, k3⟩
  refine ⟨⟨F, m, h1, h2, h3, fun v => ?_, h5⟩, k3⟩
  rw [h4 v]
  simp [opW]
theorem Minus_c {sa sb : AC} {la lb : List Sp} {H : AHeap} (ha : SlR H sa 2 (spRows la)) (hb : SlR H sb 2 (spRows lb)) (hla : la.length ≤ 9223372036854775807) (hlb : lb.length ≤ 9223372036854775807) :
    Fn.Z4 sa sb H fun H' q e => e = bErr 2 la lb ∧ SlR H' q 2 (spRows (bRows 2 la lb)) ∧ Kp H H' := by
  refine Z4.run ?_
  unfold Z4.W
  refine both_c ha hb hla hlb fun H2 k2 oa ob => CVT.mk lt39 (RunT.imp ?_ (minus_c (ha.kp k2) (hb.kp k2) oa ob))
  rintro H3 (q : AC) ⟨⟨F, m, h1, h2, h3, h4, h5⟩, k3⟩
  refine ⟨⟨F, m, h1, h2, h3, fun v => ?_, h5⟩, k3⟩
  rw [h4 v]
  simp [opW]
end Go.Proofs.YtkpjcnlljdccjaaGreat
end
section
namespace Go.Proofs.YtkpjcnlljdccjaaGreat
open Go.AI
set_option linter.unusedVariables false
def zSize (l : List Sp) : Int := if dFlt l ≠ 0 then 0 else spSize l
def zHas (l : List Sp) (v : Int) : Bool := if dFlt l ≠ 0 then false else decide (inS l v)
theorem Size_c {s : AC} {l : List Sp} {H : AHeap} (hs : SlR H s 2 (spRows l)) (hl : l.length ≤ 9223372036854775807) :
    Fn.Z5 s H fun H' q e => q = zSize l ∧ e = dFlt l ∧ Kp H H' := by
  refine Z5.run ?_
  unfold Z5.W zSize
  refine RunT.imp ?_ (Check_c hs hl)
  rintro H1 (q : Int) ⟨rfl, k1⟩
  refine CondB.ne (fun h => ?_) fun h => ?_
  · rw [if_pos h]; exact ⟨rfl, rfl, k1⟩
  rw [if_neg (show ¬ dFlt l ≠ 0 by omega)]
  refine RunT.imp ?_ (size_c (hs.kp k1) (dFlt_ok h))
  rintro H2 (q : Int) ⟨rfl, k2⟩
  exact ⟨rfl, h.symm, k1.trans k2⟩
theorem Has_c {s : AC} {l : List Sp} {v : Int} {H : AHeap} (hs : SlR H s 2 (spRows l)) (hl : l.length ≤ 9223372036854775807) :
    Fn.Z1 s v H fun H' q e => q = zHas l v ∧ e = dFlt l ∧ Kp H H' := by
  refine Z1.run ?_
  unfold Z1.W zHas
  refine RunT.imp ?_ (Check_c hs hl)
  rintro H1 (q : Int) ⟨rfl, k1⟩
  refine CondB.ne (fun h => ?_) fun h => ?_
  · rw [if_pos h]; exact ⟨rfl, rfl, k1⟩
  rw [if_neg (show ¬ dFlt l ≠ 0 by omega)]
  refine RunT.imp ?_ (has_c (v := v) (hs.kp k1) (dFlt_ok h))
  rintro H2 (q : Bool) ⟨rfl, k2⟩
  exact ⟨rfl, h.symm, k1.trans k2⟩
theorem bRows_len (w : Int) (la lb : List Sp) : (bRows w la lb).length ≤ 256 := by
  unfold bRows fitRows
  split
  · simp
  split
  · simp
  split
  · simp
  split
  · simp
  · omega
end Go.Proofs.YtkpjcnlljdccjaaGreat
end
section
namespace Go.Proofs.YtkpjcnlljdccjaaGreat
open Go.AI
set_option linter.unusedVariables false
theorem spSize_append (l m : List Sp) : spSize (l ++ m) = spSize l + spSize m := by
  unfold spSize
  rw [List.map_append, List.sum_append]
theorem spSize_one (p : Sp) : spSize [p] = p.2 - p.1 + 1 := by simp [spSize]
theorem spSize_add (out : List Sp) (v : Int) : spSize (spAdd out v) = spSize out + 1 := by
  unfold spAdd
  split
  · next p hp =>
    obtain ⟨ys, rfl⟩ := List.getLast?_eq_some_iff.1 hp
    split
    · next he =>
      rw [List.dropLast_concat, spSize_append, spSize_append, spSize_one, spSize_one]
      simp only
      omega
    · rw [spSize_append, spSize_one]
      simp only
      omega
  · rw [spSize_append, spSize_one]
    simp only
    omega
theorem spSize_of (us : List Int) : spSize (spOf us) = us.length := by
  suffices h : ∀ (us : List Int) (out : List Sp), spSize (us.foldl spAdd out) = spSize out + us.length by
    have := h us []
    rw [show spSize [] = 0 from rfl] at this
    unfold spOf
    omega
  intro us
  induction us with
  | nil => intro out; simp
  | cons v us ih =>
    intro out
    rw [List.foldl_cons, ih, spSize_add, List.length_cons]
    omega
theorem self_eq {l : List Sp} (o : DOk l) : l = spOf (pk (inJ l) maxN) := by
  obtain ⟨h1, h2⟩ := pk_norm (inJ l) maxN
  refine norm_eq o.norm h1 fun v => ?_
  rw [h2 v, maxN_eq]
  constructor
  · intro h
    have := o.inb h
    refine ⟨(v + 16384).toNat, by omega, ?_, by omega⟩
    unfold inJ
    rw [show (((v + 16384).toNat : Int) - 16384) = v from by omega]
    exact decide_eq_true h
  · rintro ⟨j, _, h, rfl⟩
    exact of_decide_eq_true h
theorem size_self {l : List Sp} (o : DOk l) : spSize l = (pk (inJ l) maxN).length := by
  have := spSize_of (pk (inJ l) maxN)
  rw [← self_eq o] at this
  exact this
theorem pk_step (g : Nat → Bool) (n : Nat) : (pk g (n + 1)).length = (pk g n).length + if g n then 1 else 0 := by
  show (pk g n ++ if g n then [(n : Int) - 16384] else []).length = _
  rw [List.length_append]
  split <;> simp
theorem pk_sizes (a b : Nat → Bool) : ∀ n, (pk (fun j => opW 0 (a j) (b j)) n).length + (pk (fun j => opW 1 (a j) (b j)) n).length = (pk a n).length + (pk b n).length ∧ (pk (fun j => opW 2 (a j) (b j)) n).length + (pk (fun j => opW 1 (a j) (b j)) n).length = (pk a n).length
  | 0 => ⟨rfl, rfl⟩
  | n + 1 => by
    obtain ⟨h1, h2⟩ := pk_sizes a b n
    simp only [pk_step]
    generalize (pk (fun j => opW 0 (a j) (b j)) n).length = A0 at h1 ⊢
    generalize (pk (fun j => opW 1 (a j) (b j)) n).length = A1 at h1 h2 ⊢
    generalize (pk (fun j => opW 2 (a j) (b j)) n).length = A2 at h2 ⊢
    generalize (pk a n).length = A at h1 h2 ⊢
    generalize (pk b n).length = B at h1 ⊢
    cases a n <;> cases b n <;> simp [opW] <;> omega
theorem sizes {la lb : List Sp} (oa : DOk la) (ob : DOk lb) : spSize (setW 0 la lb) + spSize (setW 1 la lb) = spSize la + spSize lb ∧ spSize (setW 2 la lb) + spSize (setW 1 la lb) = spSize la := by
  obtain ⟨h1, h2⟩ := pk_sizes (inJ la) (inJ lb) maxN
  unfold setW
  rw [spSize_of, spSize_of, spSize_of, size_self oa, size_self ob]
  omega
theorem spSize_pos {l : List Sp} (h : Norm l) (h0 : 0 < l.length) : 0 < spSize l := by
  cases l with
  | nil => simp at h0
  | cons p l =>
    have : ∀ (l : List Sp), Norm l → 0 ≤ spSize l := by
      intro l
      induction l with
      | nil => intro _; simp [spSize]
      | cons q l ih =>
        intro hn
        have h1 := ih hn.2.2
        have h2 := hn.1
        rw [show q :: l = [q] ++ l from rfl, spSize_append, spSize_one]
        omega
    have h1 := this l h.2.2
    have h2 := h.1
    rw [show p :: l = [p] ++ l from rfl, spSize_append, spSize_one]
    omega
theorem dScan_of : ∀ (l : List Sp) (prev : Option Int), Norm l → (∀ p ∈ l, -16384 ≤ p.1 ∧ p.2 ≤ 16384) → (∀ h, prev = some h → ∀ p ∈ l, h + 1 < p.1) → dScan prev l = 0
  | [], prev, _, _, _ => by cases prev <;> rfl
  | p :: l, prev, hn, hb, hp => by
    unfold dScan
    have h1 := hn.1
    have h2 := hb p (List.mem_cons_self ..)
    rw [if_neg (by omega), if_neg]
    · exact dScan_of l _ hn.2.2 (fun q hq => hb q (List.mem_cons_of_mem _ hq)) fun h e q hq => by cases e; exact hn.2.1 q hq
    · cases prev with
      | none => simp
      | some e =>
        have := hp e rfl p (List.mem_cons_self ..)
        simp
        omega
theorem dFlt_of {l : List Sp} (o : DOk l) : dFlt l = 0 := by
  have h1 := o.pos
  have h2 := o.len
  unfold dFlt
  rw [if_neg (by omega), if_neg (by omega)]
  exact dScan_of l none o.norm o.bd fun h e => by cases e
theorem bOut {w : Int} {la lb : List Sp} (oa : DOk la) (ob : DOk lb) : (bErr w la lb = 3 ∧ bRows w la lb = []) ∨ (bErr w la lb = 15 ∧ bRows w la lb = [] ∧ setW w la lb = []) ∨ (bErr w la lb = 0 ∧ bRows w la lb = setW w la lb ∧ DOk (setW w la lb)) := by
  unfold bErr bRows fitErr fitRows
  have e1 := dFlt_of oa
  have e2 := dFlt_of ob
  rw [if_neg (show ¬ dFlt la ≠ 0 by omega), if_neg (show ¬ dFlt la ≠ 0 by omega), if_neg (show ¬ dFlt lb ≠ 0 by omega), if_neg (show ¬ dFlt lb ≠ 0 by omega)]
  by_cases h0 : (setW w la lb).length = 0
  · rw [if_pos h0, if_pos h0]
    exact .inr (.inl ⟨rfl, rfl, List.eq_nil_of_length_eq_zero h0⟩)
  · rw [if_neg h0, if_neg h0]
    by_cases h1 : 256 < (setW w la lb).length
    · rw [if_pos h1, if_pos h1]
      exact .inl ⟨rfl, rfl⟩
    · rw [if_neg h1, if_neg h1]
      refine .inr (.inr ⟨rfl, rfl, setW_norm w la lb, fun p hp => ?_, by omega, by omega⟩)
      have hle := (setW_norm w la lb).le p hp
      have key : ∀ v, inS (setW w la lb) v → -16384 ≤ v ∧ v ≤ 16384 := fun v hv => by
        unfold setW at hv
        obtain ⟨j, hj, _, rfl⟩ := ((pk_norm _ _).2 v).1 hv
        rw [maxN_eq] at hj
        omega
      have a := key p.1 ⟨p, hp, Int.le_refl _, hle⟩
      have b := key p.2 ⟨p, hp, hle, Int.le_refl _⟩
      exact ⟨a.1, b.2⟩
theorem zHas_nil (v : Int) : zHas [] v = false := rfl
theorem zHas_ok {l : List Sp} (o : DOk l) (v : Int) : zHas l v = decide (inS l v) := by
  unfold zHas
  rw [if_neg (show ¬ dFlt l ≠ 0 by rw [dFlt_of o]; omega)]
theorem zSize_ok {l : List Sp} (o : DOk l) : zSize l = spSize l := by
  unfold zSize
  rw [if_neg (show ¬ dFlt l ≠ 0 by rw [dFlt_of o]; omega)]
theorem spSize_small {l : List Sp} (o : DOk l) : 0 < spSize l ∧ spSize l ≤ 256 * 32769 := by
  have h1 := (spSize_bd o.all l.length (Nat.le_refl _)).2
  rw [List.take_length] at h1
  have := o.len
  exact ⟨spSize_pos o.norm o.pos, by omega⟩
end Go.Proofs.YtkpjcnlljdccjaaGreat
end
section
namespace Go.Proofs.YtkpjcnlljdccjaaGreat
open Go.AI
set_option linter.unusedVariables false
theorem law4_c {sa sb : AC} {la lb : List Sp} {v : Int} {H : AHeap} (ha : SlR H sa 2 (spRows la)) (hb : SlR H sb 2 (spRows lb)) (hla : la.length ≤ 9223372036854775807) (hlb : lb.length ≤ 9223372036854775807) (hw : GW H) :
    Fn.Z14 sa sb v H fun H' q => q = true ∧ Kp H H' := by
  refine Z14.run ?_
  unfold Z14.W
  have lab : ∀ {H1 : AHeap}, Kp H H1 → Fn.fetterlocklaw5_labelled H1 fun H' q => q = true ∧ Kp H H' := fun {H1} k1 => RunT.imp (by rintro H2 (q : Bool) ⟨rfl, k2⟩; exact ⟨rfl, k1.trans k2⟩) labelled_c
  refine RunT.imp ?_ (Size_c ha hla)
  rintro H1 (m : Int) (e1 : Int) ⟨rfl, rfl, k1⟩
  refine RunT.imp ?_ (Size_c (hb.kp k1) hlb)
  rintro H2 (n : Int) (e2 : Int) ⟨rfl, rfl, k2⟩
  have k12 := k1.trans k2
  have bad : ∀ {m n : Int}, Z14.p9 (fun H' q => q = true ∧ Kp H H') sa sb v m n true H2 := fun {m n} => by
    unfold Z14.p9
    exact CondB.pos rfl (lab k12)
  refine CondB.ne (fun _ => bad) fun h1 => ?_
  by_cases h2 : dFlt lb = 0
  rotate_left
  · rw [show (dFlt lb != 0) = true from by simpa using h2]
    exact bad
  rw [show (dFlt lb != 0) = false from by rw [h2]; rfl]
  have oa := dFlt_ok h1
  have ob := dFlt_ok h2
  rw [zSize_ok oa, zSize_ok ob]
  obtain ⟨z1, z2⟩ := sizes oa ob
  have za := spSize_small oa
  have zb := spSize_small ob
  have i0 := fun v => opW_in (w := 0) oa ob v
  have i1 := fun v => opW_in (w := 1) oa ob v
  have i2 := fun v => opW_in (w := 2) oa ob v
  have c0 := bOut (w := 0) oa ob
  have c1 := bOut (w := 1) oa ob
  have c2 := bOut (w := 2) oa ob
  have n1 := setW_norm 1 la lb
  have n2 := setW_norm 2 la lb
  unfold Z14.p9
  refine CondB.neg rfl (RunT.imp ?_ (Has_c (v := v) (ha.kp k12) hla))
  rintro H3 (inA : Bool) (e3 : Int) ⟨rfl, _, k3⟩
  have k13 := k12.trans k3
  refine RunT.imp ?_ (Has_c (v := v) (hb.kp k13) hlb)
  rintro H4 (inB : Bool) (e4 : Int) ⟨rfl, _, k4⟩
  have k14 := k13.trans k4
  rw [zHas_ok oa, zHas_ok ob]
  refine RunT.imp ?_ (Join_c (ha.kp k14) (hb.kp k14) hla hlb (k14.gw.1 hw))
  rintro H5 (q5 : AC) (e5 : Int) ⟨rfl, hq5, k5⟩
  have k15 := k14.trans k5
  refine CondB.eq (fun _ => lab k15) fun h53 => ?_
  -- the union
  obtain ⟨x5, r5, o5⟩ : bErr 0 la lb = 0 ∧ bRows 0 la lb = setW 0 la lb ∧ DOk (setW 0 la lb) := by
    rcases c0 with ⟨h, _⟩ | ⟨_, _, h⟩ | h
    · exact absurd h h53
    · exfalso
      have hp := oa.pos
      obtain ⟨p, hp⟩ : ∃ b, la[0]? = some b := ⟨_, List.getElem?_eq_getElem hp⟩
      have hm := List.mem_of_getElem? hp
      have hin : inS la p.1 := ⟨p, hm, Int.le_refl _, oa.norm.le p hm⟩
      have := (i0 p.1).2 (by rw [decide_eq_true hin]; rfl)
      rw [h] at this
      exact inS_nil _ this
    · exact h
  rw [r5] at hq5
  refine RunT.imp ?_ (Meet_c (ha.kp k15) (hb.kp k15) hla hlb)
  rintro H6 (q6 : AC) (e6 : Int) ⟨rfl, hq6, k6⟩
  have k16 := k15.trans k6
  refine CondB.eq (fun _ => lab k16) fun h63 => ?_
  -- the difference
  have p56 : ∀ {H7 : AHeap}, Kp H H7 → Z14.p56 (fun H' q => q = true ∧ Kp H H') sa sb v (spSize la) (decide (inS la v)) (decide (inS lb v)) (spSize (setW 1 la lb)) true H7 := by
    intro H7 k7
    unfold Z14.p56
    refine RunT.imp ?_ (Minus_c (ha.kp k7) (hb.kp k7) hla hlb)
    rintro H8 (q8 : AC) (e8 : Int) ⟨rfl, hq8, k8⟩
    have k78 := k7.trans k8
    refine CondB.eq (fun _ => CondB.pos rfl (lab k78)) fun h83 => ?_
    have hl8 := bRows_len 2 la lb
    refine RunT.imp ?_ (Has_c (v := v) hq8 (by omega))
    rintro H9 (inD : Bool) (e9 : Int) ⟨rfl, _, k9⟩
    have k79 := k78.trans k9
    have hD : zHas (bRows 2 la lb) v = decide (inS (setW 2 la lb) v) ∧ (bErr 2 la lb = 0 ↔ 0 < spSize (setW 2 la lb)) := by
      rcases c2 with ⟨h, _⟩ | ⟨h, r, s⟩ | ⟨h, r, o⟩
      · exact absurd h h83
      · rw [r, s, h, zHas_nil]
        refine ⟨by rw [decide_eq_false (inS_nil v)], ?_⟩
        constructor
        · intro h; omega
        · intro h; simp [spSize] at h
      · rw [r, h, zHas_ok o]
        exact ⟨rfl, fun _ => spSize_pos o.norm o.pos, fun _ => rfl⟩
    rw [hD.1]
    have hd : decide (inS (setW 2 la lb) v) = (decide (inS la v) && !decide (inS lb v)) := by
      cases hx : (decide (inS la v) && !decide (inS lb v)) with
      | true => exact decide_eq_true ((i2 v).2 hx)
      | false => exact decide_eq_false fun h => by have := (i2 v).1 h; rw [show opW 2 (decide (inS la v)) (decide (inS lb v)) = (decide (inS la v) && !decide (inS lb v)) from rfl, hx] at this; cases this
    rw [hd]
    have hez : ((bErr 2 la lb == 0) == decide (spSize la > spSize (setW 1 la lb))) = true := by
      by_cases hc : spSize la > spSize (setW 1 la lb)
      · rw [decide_eq_true hc, show (bErr 2 la lb == 0) = true from by rw [beq_iff_eq]; exact hD.2.2 (by omega)]; rfl
      · rw [decide_eq_false hc, show (bErr 2 la lb == 0) = false from by rw [beq_eq_false_iff_ne]; intro h; have := hD.2.1 h; omega]; rfl
    refine CondB.pos rfl (CondB.pos hez (CondB.mk (fun hA => ?_) fun hA => ?_))
    · exact CondB.pos (by rw [hA]; simp) (lab k79)
    · exact CondB.pos (by rw [hA]; simp) (lab k79)
  have hX : decide (inS (setW 1 la lb) v) = (decide (inS la v) && decide (inS lb v)) := by
    cases hx : (decide (inS la v) && decide (inS lb v)) with
    | true => exact decide_eq_true ((i1 v).2 hx)
    | false => exact decide_eq_false fun h => by have := (i1 v).1 h; rw [show opW 1 (decide (inS la v)) (decide (inS lb v)) = (decide (inS la v) && decide (inS lb v)) from rfl, hx] at this; cases this
  have hJ : decide (inS (setW 0 la lb) v) = (decide (inS la v) || decide (inS lb v)) := by
    cases hx : (decide (inS la v) || decide (inS lb v)) with
    | true => exact decide_eq_true ((i0 v).2 hx)
    | false => exact decide_eq_false fun h => by have := (i0 v).1 h; rw [show opW 0 (decide (inS la v)) (decide (inS lb v)) = (decide (inS la v) || decide (inS lb v)) from rfl, hx] at this; cases this
  have zs1 : 0 ≤ spSize (setW 1 la lb) ∧ spSize (setW 1 la lb) ≤ spSize la := by
    have h0 : ∀ (l : List Sp), Norm l → 0 ≤ spSize l := fun l hl => by
      by_cases h : 0 < l.length
      · have := spSize_pos hl h; omega
      · have e : l = [] := List.eq_nil_of_length_eq_zero (by omega)
        rw [e]; simp [spSize]
    have := h0 _ n1
    have := h0 _ n2
    omega
  have p50 : ∀ {H7 : AHeap}, Kp H H7 → SlR H7 q5 2 (spRows (setW 0 la lb)) → (bErr 1 la lb = 0 ↔ 0 < spSize (setW 1 la lb)) → Z14.p50 (fun H' q => q = true ∧ Kp H H') sa sb v (spSize la) (bErr 0 la lb) (spSize lb) (bErr 1 la lb) (decide (inS la v)) (decide (inS lb v)) q5 (spSize (setW 1 la lb)) (decide (inS (setW 1 la lb) v)) H7 := by
    intro H7 k7 hq7 hz
    have hl5 := o5.len
    unfold Z14.p50
    refine RunT.imp ?_ (Size_c hq7 (by omega))
    rintro H8 (all : Int) (e8 : Int) ⟨rfl, rfl, k8⟩
    have k78 := k7.trans k8
    refine RunT.imp ?_ (Has_c (v := v) (hq7.kp k8) (by omega))
    rintro H9 (inJ' : Bool) (e9 : Int) ⟨rfl, _, k9⟩
    have k79 := k78.trans k9
    rw [zSize_ok o5, zHas_ok o5, dFlt_of o5]
    have hez : ((bErr 1 la lb == 0) == decide (spSize (setW 1 la lb) > 0)) = true := by
      by_cases hc : spSize (setW 1 la lb) > 0
      · rw [decide_eq_true hc, show (bErr 1 la lb == 0) = true from by rw [beq_iff_eq]; exact hz.2 hc]; rfl
      · rw [decide_eq_false hc, show (bErr 1 la lb == 0) = false from by rw [beq_eq_false_iff_ne]; intro h; have := hz.1 h; omega]; rfl
    refine CondB.pos (by rw [x5]; rfl) (CondB.pos rfl (CondB.pos hez (CondB.pos (by rw [z1]; simp) ?_)))
    rw [hJ, hX]
    refine CondB.mk (fun hA => ?_) fun hA => ?_
    · refine CondB.pos (by rw [hA]; simp) (CondB.pos hA ?_)
      rw [show ((decide (inS la v) && decide (inS lb v)) == decide (inS lb v)) = true from by rw [hA]; simp]
      exact p56 k79
    · refine CondB.pos (by rw [hA]; simp) (CondB.neg hA ?_)
      rw [show ((decide (inS la v) && decide (inS lb v)) == false) = true from by rw [hA]; simp]
      exact p56 k79
  rcases c1 with ⟨h, _⟩ | ⟨h, r, s⟩ | ⟨h, r, o⟩
  · exact absurd h h63
  · refine CondB.neg (by rw [h]; rfl) ?_
    have e1 : spSize (setW 1 la lb) = 0 := by rw [s]; rfl
    have e2 : decide (inS (setW 1 la lb) v) = false := by rw [s]; exact decide_eq_false (inS_nil v)
    have := p50 k16 (hq5.kp k6) ⟨fun h' => by omega, fun h' => by omega⟩
    rw [e1, e2] at this
    exact this
  · refine CondB.pos (by rw [h]; rfl) ?_
    rw [r] at hq6
    have hl6 := o.len
    refine RunT.imp ?_ (Size_c hq6 (by omega))
    rintro H7 (both : Int) (e7 : Int) ⟨rfl, _, k7⟩
    have k17 := k16.trans k7
    refine RunT.imp ?_ (Has_c (v := v) (hq6.kp k7) (by omega))
    rintro H8 (inX : Bool) (e8 : Int) ⟨rfl, _, k8⟩
    have k18 := k17.trans k8
    rw [zSize_ok o, zHas_ok o]
    exact p50 k18 (((hq5.kp k6).kp k7).kp k8) ⟨fun _ => spSize_pos o.norm o.pos, fun _ => h⟩
end Go.Proofs.YtkpjcnlljdccjaaGreat
end
