/- Joined by a program: what the proof of the law leans on, part 15. -/
import Derived.Test.YtkpjcnlljdccjaaGreatA14
set_option linter.unusedVariables false
set_option linter.unusedSimpArgs false
section
/- Check; the law of Check. -/
namespace Go.Proofs.YtkpjcnlljdccjaaGreat
open Go.AI

/-- What is known ahead of an element: those before it are in order, and the last one's end. -/
def Bef (l : List Sp) (i : Nat) (prev : Option Int) : Prop := dScan none l = dScan prev (l.drop i) ∧ (i = 0 ∧ prev = none ∨ ∃ p, 0 < i ∧ l[i - 1]? = some p ∧ prev = some p.2 ∧ -16384 ≤ p.2 ∧ p.2 ≤ 16384)
theorem Bef.here {l : List Sp} {i : Nat} {prev : Option Int} (h : Bef l i prev) {p : Sp} (hp : l[i]? = some p) : dScan none l = if p.1 < -16384 ∨ 16384 < p.2 ∨ p.2 < p.1 then 1 else if prev.any (fun h => decide (p.1 ≤ h + 1)) then 2 else dScan (some p.2) (l.drop (i + 1)) := by
  rw [h.1, List.drop_eq_getElem_cons (List.getElem?_eq_some_iff.1 hp).1]
  rw [List.getElem?_eq_getElem (List.getElem?_eq_some_iff.1 hp).1, Option.some.injEq] at hp
  rw [hp]
  rfl
theorem Bef.next {l : List Sp} {i : Nat} {prev : Option Int} (h : Bef l i prev) {p : Sp} (hp : l[i]? = some p) (h1 : ¬ (p.1 < -16384 ∨ 16384 < p.2 ∨ p.2 < p.1)) (h2 : ¬ prev.any (fun h => decide (p.1 ≤ h + 1)) = true) : Bef l (i + 1) (some p.2) := by
  refine ⟨?_, .inr ⟨p, by omega, by simpa using hp, rfl, by omega, by omega⟩⟩
  rw [h.here hp, if_neg h1, if_neg h2]

theorem Check_c {s : AC} {l : List Sp} {H : AHeap} (hs : SlR H s 2 (spRows l)) (hl : l.length ≤ 9223372036854775807) :
    Fn.domain_Check s H fun H' q => q = dFlt l ∧ Kp H H' := by
  have hlen : (spRows l).length = l.length := by rw [List.length_map]
  refine domain_Check.run ?_
  unfold domain_Check.W
  refine LenS.of hs ?_
  rw [hlen]
  refine CondB.dec (fun h => ⟨?_, Kp.refl _⟩) fun h1 => LenS.of hs ?_
  · unfold dFlt; rw [if_pos (by omega)]
  rw [hlen]
  refine CondB.eq (fun h => ⟨?_, Kp.refl _⟩) fun h2 => LenS.of hs ?_
  · unfold dFlt; rw [if_neg (by omega), if_pos (by omega)]
  have hd : dFlt l = dScan none l := by unfold dFlt; rw [if_neg (by omega), if_neg (by omega)]
  rw [hlen, hd]
  unfold domain_Check.l21
  refine LoopT.rule (fun m s0 H2 => ∃ (i : Nat) (prev : Option Int), i ≤ l.length ∧ m = l.length - i ∧ s0 = (s, s, (l.length : Int), (i : Int), ()) ∧ Kp H H2 ∧ Bef l i prev) l.length ⟨0, none, by omega, by omega, rfl, Kp.refl _, rfl, .inl ⟨rfl, rfl⟩⟩ ?_
  rintro m s0 H2 back ⟨i, prev, hi, rfl, rfl, k2, hb⟩ hback
  simp only [domain_Check.b21]
  refine CondB.dec (fun hlt => ?_) fun hge => ⟨?_, k2⟩
  · have hi' : i < l.length := by omega
    obtain ⟨p, hp⟩ : ∃ b, l[i]? = some b := ⟨_, List.getElem?_eq_getElem hi'⟩
    have here := hb.here hp
    refine IA.of (hs.kp k2) (by omega) (by rw [Int.toNat_natCast]; exact spRow_at hp) fun b o hld => Ld.a2 hld p.1 p.2 rfl rfl ?_
    refine NewSto.own rfl fun b3 H3 hb3 hs3 o3 k3 => FA.mk (Ld.oi o3 rfl ?_)
    have k23 := k2.trans k3
    have bad : ∀ bb, bb = true → (p.1 < -16384 ∨ 16384 < p.2 ∨ p.2 < p.1) → domain_Check.p35 (fun H' q => q = dScan none l ∧ Kp H H') back s (i : Int) (.ptr (some (b3, 0))) s (l.length : Int) (i : Int) bb H3 := by
      rintro bb rfl h
      unfold domain_Check.p35
      exact CondB.pos rfl ⟨by rw [here, if_pos h], k23⟩
    refine CondB.dec (fun h => bad _ rfl (.inl h)) fun g1 => FA.mk (Ld.oi o3 rfl (CondB.dec (fun h => bad _ rfl (.inr (.inl (by omega)))) fun g2 => FA.mk (Ld.oi o3 rfl (FA.mk (Ld.oi o3 rfl ?_)))))
    by_cases g3 : p.2 < p.1
    · exact bad _ (by simpa using g3) (.inr (.inr g3))
    have hno : ¬ (p.1 < -16384 ∨ 16384 < p.2 ∨ p.2 < p.1) := by omega
    rw [decide_eq_false (show ¬ p.1 > p.2 by omega)]
    have p42 : ∀ bb, bb = prev.any (fun h => decide (p.1 ≤ h + 1)) → domain_Check.p42 (fun H' q => q = dScan none l ∧ Kp H H') back s s (l.length : Int) (i : Int) bb H3 := by
      intro bb hbb
      unfold domain_Check.p42
      refine CondB.mk (fun h => ⟨?_, k23⟩) fun h => ?_
      · rw [here, if_neg hno, if_pos (by rw [← hbb]; exact h)]
      · refine hback (l.length - (i + 1)) _ _ (by omega) ⟨i + 1, some p.2, by omega, rfl, ?_, k23, hb.next hp hno (by rw [← hbb, h]; simp)⟩
        exact tc rfl (tc rfl (tc rfl (tc ((wrap64 (by omega) (by omega)).trans (by omega)) rfl)))
    unfold domain_Check.p35
    refine CondB.neg rfl (CondB.dec (fun h0 => ?_) fun h0 => ?_)
    · have hi0 : 0 < i := by omega
      rcases hb.2 with ⟨h, _⟩ | ⟨p', _, hp', hprev, b1, b2⟩
      · omega
      have ei : IntKind.wrap .i64 ((i : Int) - 1) = ((i - 1 : Nat) : Int) := (wrap64 (by omega) (by omega)).trans (by omega)
      refine FA.mk (Ld.oi o3 rfl ?_)
      rw [ei]
      refine IA.of (hs.kp k23) (by omega) (by rw [Int.toNat_natCast]; exact spRow_at hp') fun b o hld => FA.mk (Ld.ei hld rfl (p42 _ ?_))
      rw [wrap64 (by omega) (by omega), hprev]
      rfl
    · rcases hb.2 with ⟨_, h⟩ | ⟨p', h, _⟩
      · exact p42 _ (by rw [h]; rfl)
      · omega
  · have : i = l.length := by omega
    subst this
    rw [hb.1, List.drop_eq_nil_of_le (Nat.le_refl _)]
    cases prev <;> rfl

theorem DomFault_c {s : AC} {l : List Sp} {H : AHeap} (hs : SlR H s 2 (spRows l)) (hl : l.length ≤ 9223372036854775807) :
    Fn.fetterlockref5_DomFault s H fun H' q => q = dFlt l ∧ Kp H H' := by
  have hlen : (spRows l).length = l.length := by rw [List.length_map]
  refine fetterlockref5_DomFault.run ?_
  unfold fetterlockref5_DomFault.W
  refine LenS.of hs ?_
  rw [hlen]
  refine CondB.dec (fun h => ⟨?_, Kp.refl _⟩) fun h1 => LenS.of hs ?_
  · unfold dFlt; rw [if_pos (by omega)]
  rw [hlen]
  refine CondB.eq (fun h => ⟨?_, Kp.refl _⟩) fun h2 => ?_
  · unfold dFlt; rw [if_neg (by omega), if_pos (by omega)]
  have hd : dFlt l = dScan none l := by unfold dFlt; rw [if_neg (by omega), if_neg (by omega)]
  rw [hd]
  unfold fetterlockref5_DomFault.l22
  refine LoopT.rule (fun m s0 H2 => ∃ (i : Nat) (prev : Option Int), i ≤ l.length ∧ m = l.length - i ∧ s0 = (s, (i : Int), ()) ∧ Kp H H2 ∧ Bef l i prev) l.length ⟨0, none, by omega, by omega, rfl, Kp.refl _, rfl, .inl ⟨rfl, rfl⟩⟩ ?_
  rintro m s0 H2 back ⟨i, prev, hi, rfl, rfl, k2, hb⟩ hback
  simp only [fetterlockref5_DomFault.b22]
  refine LenS.of (hs.kp k2) ?_
  rw [hlen]
  refine CondB.dec (fun hlt => ?_) fun hge => ⟨?_, k2⟩
  · have hi' : i < l.length := by omega
    obtain ⟨p, hp⟩ : ∃ b, l[i]? = some b := ⟨_, List.getElem?_eq_getElem hi'⟩
    have here := hb.here hp
    refine IA.of (hs.kp k2) (by omega) (by rw [Int.toNat_natCast]; exact spRow_at hp) fun b o hld => Ld.a2 hld p.1 p.2 rfl rfl ?_
    refine NewSto.own rfl fun b3 H3 hb3 hs3 o3 k3 => FA.mk (Ld.oi o3 rfl ?_)
    have k23 := k2.trans k3
    have bad : ∀ bb, bb = true → (p.1 < -16384 ∨ 16384 < p.2 ∨ p.2 < p.1) → fetterlockref5_DomFault.p36 (fun H' q => q = dScan none l ∧ Kp H H') back s (i : Int) (.ptr (some (b3, 0))) bb H3 := by
      rintro bb rfl h
      unfold fetterlockref5_DomFault.p36
      exact CondB.pos rfl ⟨by rw [here, if_pos h], k23⟩
    refine CondB.dec (fun h => bad _ rfl (.inl h)) fun g1 => FA.mk (Ld.oi o3 rfl (CondB.dec (fun h => bad _ rfl (by omega)) fun g1' => FA.mk (Ld.oi o3 rfl (CondB.dec (fun h => bad _ rfl (by omega)) fun g2' => FA.mk (Ld.oi o3 rfl (CondB.dec (fun h => bad _ rfl (.inr (.inl (by omega)))) fun g2 => FA.mk (Ld.oi o3 rfl (FA.mk (Ld.oi o3 rfl ?_)))))))))
    by_cases g3 : p.2 < p.1
    · exact bad _ (by simpa using g3) (.inr (.inr g3))
    have hno : ¬ (p.1 < -16384 ∨ 16384 < p.2 ∨ p.2 < p.1) := by omega
    rw [decide_eq_false (show ¬ p.1 > p.2 by omega)]
    have p43 : ∀ bb, bb = prev.any (fun h => decide (p.1 ≤ h + 1)) → fetterlockref5_DomFault.p43 (fun H' q => q = dScan none l ∧ Kp H H') back s (i : Int) bb H3 := by
      intro bb hbb
      unfold fetterlockref5_DomFault.p43
      refine CondB.mk (fun h => ⟨?_, k23⟩) fun h => ?_
      · rw [here, if_neg hno, if_pos (by rw [← hbb]; exact h)]
      · refine hback (l.length - (i + 1)) _ _ (by omega) ⟨i + 1, some p.2, by omega, rfl, ?_, k23, hb.next hp hno (by rw [← hbb, h]; simp)⟩
        exact tc rfl (tc ((wrap64 (by omega) (by omega)).trans (by omega)) rfl)
    unfold fetterlockref5_DomFault.p36
    refine CondB.neg rfl (CondB.dec (fun h0 => ?_) fun h0 => ?_)
    · have hi0 : 0 < i := by omega
      rcases hb.2 with ⟨h, _⟩ | ⟨p', _, hp', hprev, b1, b2⟩
      · omega
      have ei : IntKind.wrap .i64 ((i : Int) - 1) = ((i - 1 : Nat) : Int) := (wrap64 (by omega) (by omega)).trans (by omega)
      refine FA.mk (Ld.oi o3 rfl ?_)
      rw [ei]
      refine IA.of (hs.kp k23) (by omega) (by rw [Int.toNat_natCast]; exact spRow_at hp') fun b o hld => FA.mk (Ld.ei hld rfl (p43 _ ?_))
      rw [wrap64 (by omega) (by omega), hprev]
      rfl
    · rcases hb.2 with ⟨_, h⟩ | ⟨p', h, _⟩
      · exact p43 _ (by rw [h]; rfl)
      · omega
  · have : i = l.length := by omega
    subst this
    rw [hb.1, List.drop_eq_nil_of_le (Nat.le_refl _)]
    cases prev <;> rfl

theorem labelled_c {H : AHeap} : Fn.fetterlocklaw5_labelled H fun H' q => q = true ∧ Kp H H' := by
  unfold Fn.fetterlocklaw5_labelled
  exact runT_told (v := .one (.bool true)) (H' := H) rfl rfl (true, ()) rfl ⟨rfl, Kp.refl _⟩

theorem law1_c {s : AC} {l : List Sp} {H : AHeap} (hs : SlR H s 2 (spRows l)) (hl : l.length ≤ 9223372036854775807) :
    Fn.fetterlocklaw5_DomainCheckMatchesSpec s H fun H' q => q = true ∧ Kp H H' := by
  refine fetterlocklaw5_DomainCheckMatchesSpec.run ?_
  unfold fetterlocklaw5_DomainCheckMatchesSpec.W
  refine RunT.imp ?_ (Check_c hs hl)
  rintro H1 (q : Int) ⟨rfl, k1⟩
  refine RunT.imp ?_ (DomFault_c (hs.kp k1) hl)
  rintro H2 (q : Int) ⟨rfl, k2⟩
  refine CondB.pos (by simp) (RunT.imp ?_ labelled_c)
  rintro H3 q ⟨rfl, k3⟩
  exact ⟨rfl, (k1.trans k2).trans k3⟩
end Go.Proofs.YtkpjcnlljdccjaaGreat
end
