/- Joined by a program: what the proof of the law leans on, part 7. -/
import Derived.Test.YtanaaabejeeakaaA6
import Derived.Test.YtanaaabejeeakaaRows
import Derived.WalkKit
import Derived.ProofKit
import Derived.OpenShut
import Derived.JoinedCond
import Derived.Below
import Derived.ChangeSame
import Derived.Lib.SlicesCompact
set_option linter.unusedVariables false
set_option linter.unusedSimpArgs false
section
namespace Go.Proofs.Ytanaaabejeeakaa
open Go.AI Go.AI.DT
theorem lt52 : 52 < Try.prog.funcs.size := (Array.getElem?_eq_some_iff.1 Try.func52).1
theorem lt53 : 53 < Try.prog.funcs.size := (Array.getElem?_eq_some_iff.1 Try.func53).1
structure Kids (H : AHeap) (s : AC) (Fk : Nat → Prop) (ts : List DT) (kids : List Fm) (rs : List DT) : Prop where
  own : OwnS H s 1 Fk (rs.map fun r => [AC.int .i64 (ref ts r)])
  inn : ∀ r ∈ rs, In ts r
  val : ∀ ρ, rs.map (DT.eval ρ) = kids.map (Fm.val ρ)
theorem Kids.at' {H : AHeap} {s : AC} {Fk : Nat → Prop} {ts : List DT} {kids : List Fm} {rs : List DT} (h : Kids H s Fk ts kids rs) {i : Nat} (hi : i < kids.length) : ∃ r k, rs[i]? = some r ∧ kids[i]? = some k ∧ In ts r ∧ (∀ ρ, r.eval ρ = k.val ρ) ∧
    (rs.map fun r => [AC.int .i64 (ref ts r)])[i]? = some [AC.int .i64 (ref ts r)] := by
  have hl : rs.length = kids.length := by have := congrArg List.length (h.val fun _ => false); simpa using this
  refine ⟨rs[i], kids[i], List.getElem?_eq_getElem (by omega), List.getElem?_eq_getElem hi, h.inn _ (List.getElem_mem _), fun ρ => ?_, ?_⟩
  · have := congrArg (fun l => l[i]?) (h.val ρ)
    simp only [List.getElem?_map, List.getElem?_eq_getElem (show i < rs.length by omega), List.getElem?_eq_getElem hi, Option.map_some, Option.some.injEq] at this
    exact this
  · rw [List.getElem?_map, List.getElem?_eq_getElem (by omega)]; rfl
theorem OpRes.of {H H1 H' : AHeap} {m : AC} {F F1 : Nat → Prop} {ts ts1 : List DT} {n k N : Nat} {val val' : (Nat → Bool) → Bool} {q : Int} (af : After H m F ts n H1 F1 ts1) (h : OpRes H1 m F1 ts1 k val H' q) (hN : n + k ≤ N) (hv : ∀ ρ, val ρ = val' ρ) : OpRes H m F ts N val' H' q := by
  obtain ⟨F', ts', r, af', h1, h2, h3⟩ := h
  have := af.trans af'
  exact ⟨F', ts', r, ⟨this.mgr, this.pre, by have := this.len; omega, this.keep, this.fresh⟩, h1, h2, fun ρ => (h3 ρ).trans (hv ρ)⟩
theorem join_c {m : AC} {fn : AC} {op : Bool → Bool → Bool} {H : AHeap} {F : Nat → Prop} {ts : List DT} {s : AC} {Fk : Nat → Prop} {kids : List Fm} {rs : List DT} {start : Bool} {n0 : Nat} {H0 : AHeap} {F0 : Nat → Prop} {ts0 : List DT} {N : Nat}
    (hf : ∀ {H : AHeap} {F : Nat → Prop} {ts : List DT} {a b : DT}, Mgr H m F ts → In ts a → In ts b → ts.length + 65536 ≤ 4294967296 →
      CVT Try.prog [(false, [.int .i64])] fn [(.one (.int .i64 (ref ts a))), (.one (.int .i64 (ref ts b)))] H fun H' q => OpRes H m F ts 65535 (fun ρ => op (a.eval ρ) (b.eval ρ)) H' q)
    (af : After H0 m F0 ts0 n0 H F ts) (hk : Kids H s Fk ts kids rs) (hdis : ∀ x, F x → ¬ Fk x) (hlen : kids.length ≤ 300) (hsz : ts.length + 300 * 65536 + 65536 ≤ 4294967296) (hN : n0 + kids.length * 65535 ≤ N) :
    Z34.p64 (fun H' q => OpRes H0 m F0 ts0 N (fun ρ => (kids.map (Fm.val ρ)).foldl op start) H' q) s (ref ts (leaf start)) fn H := by
  unfold Z34.p64
  have hl : rs.length = kids.length := by have := congrArg List.length (hk.val fun _ => false); simpa using this
  refine LenS.of hk.own.slr ?_
  rw [List.length_map, hl]
  unfold Z34.l68
  refine LoopT.rule (fun mm s0 H2 => ∃ (i : Nat) (F2 : Nat → Prop) (ts2 : List DT) (a : DT), i ≤ kids.length ∧ mm = kids.length - i ∧ s0 = (ref ts2 a, fn, s, (kids.length : Int), (i : Int), ()) ∧ After H m F ts (i * 65535) H2 F2 ts2 ∧ In ts2 a ∧ (∀ x, F2 x → ¬ Fk x) ∧
    (∀ ρ, a.eval ρ = ((kids.take i).map (Fm.val ρ)).foldl op start) ∧ Kids H2 s Fk ts2 kids rs) kids.length
    ⟨0, F, ts, leaf start, by omega, by omega, by cases start <;> rfl, .refl af.mgr _, In.leaf _ _, hdis, fun ρ => by simp [eval], hk⟩ ?_
  rintro mm s0 H2 back ⟨i, F2, ts2, a, hi, rfl, rfl, af2, ha, hdis2, hva, hk2⟩ hback
  simp only [Z34.b68]
  refine CondB.dec (fun hlt => ?_) fun hge => ?_
  · have hi' : i < kids.length := by omega
    obtain ⟨r, k, hri, hki, hin, hev, hro⟩ := hk2.at' hi'
    refine IA.of hk2.own.slr (by omega) (by rw [Int.toNat_natCast]; exact hro) fun b o hld => Ld.a1 hld (ref ts2 r) rfl rfl ?_
    have hl2 := af2.len
    have hmul : i * 65535 ≤ 300 * 65535 := Nat.mul_le_mul_right _ (by omega)
    refine CVT.imp ?_ (hf af2.mgr ha hin (by omega))
    rintro H3 q ⟨F3, ts3, a3, af3, hin3, rfl, hev3⟩
    refine hback (kids.length - (i + 1)) _ _ (by omega) ⟨i + 1, F3, ts3, a3, by omega, rfl, ?_, ?_, hin3, fun x hx => ?_, fun ρ => ?_, ?_⟩
    · exact tc rfl (tc rfl (tc rfl (tc rfl (tc ((wrap64 (by omega) (by omega)).trans (by omega)) rfl))))
    · have := af2.trans af3
      exact ⟨this.mgr, this.pre, by have := this.len; omega, this.keep, this.fresh⟩
    · rcases af3.fresh x hx with h | h
      · exact hdis2 x h
      · intro hf'; have := hk2.own.lt x hf'; omega
    · rw [hev3 ρ]
      show op (a.eval ρ) (r.eval ρ) = _
      rw [hva ρ, hev ρ]
      have ht : kids.take (i + 1) = kids.take i ++ [k] := by
        rw [List.take_succ_eq_append_getElem hi']
        rw [List.getElem?_eq_getElem hi'] at hki
        simp only [Option.some.injEq] at hki
        rw [hki]
      rw [ht]; simp
    · refine ⟨?_, fun r hr => (hk2.inn r hr).mono af3.pre, hk2.val⟩
      have e : (rs.map fun r => [AC.int .i64 (ref ts3 r)]) = rs.map fun r => [AC.int .i64 (ref ts2 r)] := by
        apply List.map_congr_left
        intro r hr
        rw [ref_mono (hk2.inn r hr) af3.pre]
      rw [e]
      exact hk2.own.keep af3.keep fun x hx => hdis2 x hx
  · have hil : i = kids.length := by omega
    subst hil
    have := af.trans af2
    refine ⟨F2, ts2, a, ⟨this.mgr, this.pre, by have := this.len; omega, this.keep, this.fresh⟩, ha, rfl, fun ρ => ?_⟩
    rw [hva ρ, List.take_of_length_le (Nat.le_refl _)]
theorem foldl_and : ∀ (l : List Bool) (b : Bool), l.foldl (fun x y => x && y) b = (b && l.all id)
  | [], b => by simp
  | x :: l, b => by rw [List.foldl_cons, foldl_and l]; simp [Bool.and_assoc]
theorem foldl_or : ∀ (l : List Bool) (b : Bool), l.foldl (fun x y => x || y) b = (b || l.any id)
  | [], b => by simp
  | x :: l, b => by rw [List.foldl_cons, foldl_or l]; simp [Bool.or_assoc]
theorem build_c : ∀ (n : Nat) {op var : Int} {s : AC} {f : Fm} {H : AHeap} {m : AC} {F : Nat → Prop} {ts : List DT} {base : Nat}, f.size ≤ n → f.size ≤ 300 → f.fault = 0 → FmB base H op var s f → base ≤ H.size → Mgr H m F ts → (∀ x, F x → base ≤ x) →
    ts.length + 131070 * f.size + 39321600 ≤ 4294967296 →
    Fn.Z34 m op var s H fun H' q => OpRes H m F ts (131070 * f.size - 65535) (fun ρ => f.val ρ) H' q := by
  intro n
  induction n with
  | zero => intro op var s f H m F ts base hn; have := f.size_pos; omega
  | succ n ih =>
    intro op var s f H m F ts base hn h300 hok hf hbase hm hFb hsz
    obtain ⟨kids, rows, rfl, hl, hs, hsb, hk⟩ := hf.inv
    obtain ⟨o1, o2, o3, o4, o5, o6⟩ := Fm.ok_inv hok
    have hsize : Fm.size (.mk op var kids) = Fm.sizes kids + 1 := by rw [Fm.size]
    have hlen := Fm.sizes_len kids
    rw [hsize] at hn h300 hsz ⊢
    have hlt := hm.lt
    refine Z34.run ?_
    unfold Z34.W
    refine New.own fun b H1 hb hs1 ho hkp => ?_
    refine FA.mk (Ld.oc ho rfl (LenS.of (hs.kp hkp) ?_))
    rw [List.length_map, hl]
    have hbF : ¬ F b := fun h => by have := hlt _ h; omega
    unfold Z34.l8
    refine LoopT.rule (fun mm s0 H2 => ∃ (i : Nat) (F2 : Nat → Prop) (ts2 : List DT) (ks : AC) (Fk : Nat → Prop) (rs : List DT), i ≤ kids.length ∧ mm = kids.length - i ∧ s0 = (m, .ptr (some (b, 0)), ks, s, (kids.length : Int), (i : Int), ()) ∧
      After H1 m F ts (131070 * Fm.sizes (kids.take i) - 65535 * i) H2 F2 ts2 ∧ Kids H2 ks Fk ts2 (kids.take i) rs ∧ (∀ x, F2 x → ¬ Fk x) ∧ (∀ x, Fk x → H1.size ≤ x) ∧ ¬ Fk b ∧ Own H2 b [.int .i64 op, .int .i64 var, s]) kids.length
      ⟨0, F, ts, .sl none 0 0 (some 0), fun _ => False, [], by omega, by omega, rfl, After.refl (hm.kp hkp) _, ⟨OwnS.nil _ _, fun _ h => (by cases h), fun _ => rfl⟩, fun _ _ => id, fun _ h => h.elim, id, ho⟩ ?_
    rintro mm s0 H2 back ⟨i, F2, ts2, ks, Fk, rs, hi, rfl, rfl, af2, hki2, hdis2, hFkb, hbk, ho2⟩ hback
    simp only [Z34.b8]
    have hsz2 := af2.keep.size
    have hsame : ∀ x, x < base → H2.get x = H.get x := fun x hx => by rw [af2.keep.get x (by omega) (fun h => by have := hFb x h; omega), hkp.get x (by omega) id]
    have hF2 : ∀ x, F2 x → base ≤ x := fun x h => by rcases af2.fresh x h with h | h; exact hFb x h; omega
    have hs2 : SlR H2 s 3 (rows.map fun r : Int × Int × AC => [.int .i64 r.1, .int .i64 r.2.1, r.2.2]) := by
      obtain ⟨a, z, cap, e, hr⟩ := hs.ex
      refine ⟨a, z, cap, e, fun j r hj => ?_⟩
      obtain ⟨hz, b', o', e1, hld⟩ := hr j r hj
      subst e1
      exact ⟨hz, b', o', rfl, af2.keep.loadS (hkp.load hld) (fun h => by have := hFb _ h; have := hsb b' o' _ _ _ e; omega)⟩
    have hl2 := af2.len
    have htl := Fm.sizes_le kids i
    have hSi := Fm.sizes_len (kids.take i)
    rw [List.length_take, Nat.min_eq_left hi] at hSi
    refine CondB.dec (fun hlt2 => ?_) fun hge => ?_
    · have hi' : i < kids.length := by omega
      obtain ⟨r, k, hri, hki, hro⟩ := kid_at hl hi'
      have hle := Fm.size_mem kids i k hki
      have htk := Fm.sizes_take kids i k hki
      have htl' := Fm.sizes_le kids (i + 1)
      have hkp0 := k.size_pos
      refine IA.of hs2 (by omega) (by rw [Int.toNat_natCast]; exact hro) fun b' o' hld => Ld.a3 hld r.1 r.2.1 r.2.2 rfl rfl ?_
      refine NewSto.own rfl fun p H3 hp hs3 hbox hk3 => ?_
      refine Ld.o3 hbox r.1 r.2.1 r.2.2 rfl ?_
      have hkB : FmB base H3 r.1 r.2.1 r.2.2 k := (hk i r k hri hki).move fun x hx => by rw [hk3.get x (by omega) id, hsame x hx]
      refine RunT.imp ?_ (ih (by omega) (by omega) (o6 k (List.mem_of_getElem? hki)) hkB (by omega) (af2.mgr.kp hk3) hF2 (by omega))
      rintro H4 q ⟨F4, ts4, r4, af4, in4, rfl, hev4⟩
      have af4' := After.kp hk3 af4
      have hl4 := af4.len
      have hsz34 := af4.keep.size
      refine NewS.own fun p2 H5 hp2 hs5 hbox5 hk5 => ?_
      have hbF2 : ¬ F2 b := fun h => by rcases af2.fresh _ h with h | h; exact hbF h; omega
      have ho4 := (ho2.kp hk3).keep af4.keep hbF2
      have own4 := (hki2.own.kp hk3).keep af4.keep hdis2
      have hrl : rs.length = i := by have := congrArg List.length (hki2.val fun _ => false); simp at this; omega
      refine App.own (own4.kp hk5) (r := [.int .i64 (ref ts4 r4)]) ⟨p2, _, rfl, hbox5.all⟩ rfl (by rw [List.length_map]; omega) (by rw [List.length_map]; omega) fun s6 H6 own6 hk6 hs6 => ?_
      have hFklt : ∀ x, Fk x → x < H2.size := hki2.own.lt
      have hF4Fk : ∀ x, F4 x → ¬ Fk x := fun x h hf => by
        rcases af4.fresh x h with h | h
        · exact hdis2 x h hf
        · have := hFklt x hf; omega
      have afAll := af2.trans af4'
      have hF4lt := af4.mgr.lt
      refine hback (kids.length - (i + 1)) _ _ (by omega) ⟨i + 1, F4, ts4, s6, fun y => Fk y ∨ y = H5.size, rs ++ [r4], by omega, rfl, ?_, ?_, ⟨?_, fun x hx => ?_, fun ρ => ?_⟩, fun x hx => ?_, fun x hx => ?_, fun hx => ?_, ?_⟩
      · exact tc rfl (tc rfl (tc rfl (tc rfl (tc rfl (tc ((wrap64 (by omega) (by omega)).trans (by omega)) rfl)))))
      · refine ⟨(af4.mgr.kp hk5).keep hk6 (fun x h hf => hF4Fk x hf h), afAll.pre, ?_, ?_, afAll.fresh⟩
        · have := afAll.len
          rw [htk]
          omega
        · have hszH := afAll.keep.size
          exact Keep.trans (Keep.trans' afAll.keep hk5) hk6 fun x hx h => by have := hFkb x h; omega
      · have e : ((rs ++ [r4]).map fun r => [AC.int .i64 (ref ts4 r)]) = (rs.map fun r => [AC.int .i64 (ref ts2 r)]) ++ [[AC.int .i64 (ref ts4 r4)]] := by
          rw [List.map_append]
          congr 1
          apply List.map_congr_left
          intro x hx
          rw [ref_mono (hki2.inn x hx) af4.pre]
        rw [e]; exact own6
      · rcases List.mem_append.1 hx with hx | hx
        · exact (hki2.inn x hx).mono af4.pre
        · simp at hx; subst hx; exact in4
      · have ht : kids.take (i + 1) = kids.take i ++ [k] := by
          rw [List.take_succ_eq_append_getElem hi']
          rw [List.getElem?_eq_getElem hi'] at hki
          simp only [Option.some.injEq] at hki
          rw [hki]
        rw [ht, List.map_append, List.map_append, hki2.val ρ]
        simp only [List.map_cons, List.map_nil, hev4 ρ]
      · rintro (h | h)
        · exact hF4Fk x hx h
        · have := hF4lt x hx; omega
      · rcases hx with h | h
        · exact hFkb x h
        · have := afAll.keep.size; omega
      · rcases hx with h | h
        · exact hbk h
        · have := ho2.lt; omega
      · exact (ho4.kp hk5).keep hk6 hbk
    · have hil : i = kids.length := by omega
      subst hil
      rw [List.take_of_length_le (Nat.le_refl _)] at af2 hki2 hl2
      have af2 := After.kp hkp af2
      have hv0 : ∀ ρ, Fm.val ρ (.mk op var kids) = _ := fun ρ => Fm.val.eq_1 ρ op var kids
      have hvl : ∀ ρ, Fm.vals ρ kids = kids.map (Fm.val ρ) := fun ρ => Fm.vals_map ρ kids
      have hin1 : ∀ b, In ts2 (leaf b) := In.leaf ts2
      refine FA.mk (Ld.oi ho2 rfl (CondB.eq (fun e => ?_) fun e1 => ?_))
      · refine FA.mk (Ld.oi ho2 rfl ?_)
        have hv : var ≤ 15 := by rw [Fm.most, if_pos e] at o5; exact o5
        obtain ⟨w, rfl⟩ := Int.eq_ofNat_of_zero_le o4
        have := node_c af2.mgr (v := w) (hin1 false) (hin1 true) (by omega) (by simp [top]; omega) (by simp [top]; omega) (by omega)
        refine RunT.imp ?_ this
        rintro H3 q ⟨F3, ts3, af3, in3, rfl⟩
        refine OpRes.of af2 ⟨F3, ts3, _, af3, in3, rfl, fun ρ => mk_eval ρ⟩ (by omega) fun ρ => ?_
        rw [hv0 ρ, if_pos e, Int.toNat_natCast]
        simp only [eval]
        cases ρ w <;> rfl
      refine CondB.eq (fun e => ?_) fun e2 => ?_
      · refine NewS.own fun p H3 hp hs3 hbox hk3 => ?_
        refine FA.mk (Ld.oi (ho2.kp hk3) rfl ?_)
        have hv : var ≤ 1 := by rw [Fm.most, if_neg (by omega), if_pos e] at o5; exact o5
        have af3 := af2.trans ((After.refl (af2.mgr.kp hk3) 0).kp hk3)
        have hcase : var = 0 ∨ var = 1 := by omega
        refine IA.mk o4 (by omega) ?_
        rcases hcase with rfl | rfl
        · refine Ld.i (hbox.cell (c := .int .i64 (-1)) rfl) ⟨F2, ts2, leaf false, ⟨af3.mgr, af3.pre, by have := af3.len; omega, af3.keep, af3.fresh⟩, hin1 false, rfl, fun ρ => ?_⟩
          show (leaf false).eval ρ = Fm.val ρ (.mk op 0 kids)
          rw [hv0 ρ, if_neg (by omega), if_pos e]; rfl
        · refine Ld.i (hbox.cell (c := .int .i64 (-2)) rfl) ⟨F2, ts2, leaf true, ⟨af3.mgr, af3.pre, by have := af3.len; omega, af3.keep, af3.fresh⟩, hin1 true, rfl, fun ρ => ?_⟩
          show (leaf true).eval ρ = Fm.val ρ (.mk op 1 kids)
          rw [hv0 ρ, if_neg (by omega), if_pos e]; rfl
      refine CondB.eq (fun e => ?_) fun e3 => ?_
      · have hkl : kids.length = 1 := by have := o3; simp [Fm.want, e] at this; omega
        obtain ⟨r, k, hri, hki, hin, hev, hro⟩ := hki2.at' (i := 0) (by omega)
        refine IA.of hki2.own.slr (by omega) (by exact hro) fun b' o' hld => Ld.a1 hld (ref ts2 r) rfl rfl ?_
        refine RunT.imp ?_ (not_c af2.mgr hin (by omega))
        intro H3 q hq
        refine OpRes.of af2 hq (by omega) fun ρ => ?_
        rw [hv0 ρ, if_neg (by omega), if_neg (by omega), if_pos e, hvl]
        cases kids with
        | nil => simp at hkl
        | cons a l => simp at hki; subst hki; simp [hev ρ]
      refine CondB.eq (fun e => ?_) fun e6 => ?_
      · have hkl : kids.length = 2 := by have := o3; simp [Fm.want, e] at this; omega
        obtain ⟨r, k, hri, hki, hin, hev, hro⟩ := hki2.at' (i := 0) (by omega)
        obtain ⟨r', k', hri', hki', hin', hev', hro'⟩ := hki2.at' (i := 1) (by omega)
        refine IA.of hki2.own.slr (by omega) (by exact hro) fun b' o' hld => Ld.a1 hld (ref ts2 r) rfl rfl ?_
        refine IA.of hki2.own.slr (by omega) (by exact hro') fun b' o' hld => Ld.a1 hld (ref ts2 r') rfl rfl ?_
        refine RunT.imp ?_ (xor_c af2.mgr hin hin' (by omega))
        intro H3 q hq
        refine OpRes.of af2 hq (by omega) fun ρ => ?_
        rw [hv0 ρ, if_neg (by omega), if_neg (by omega), if_neg (by omega), if_pos e, hvl]
        cases kids with
        | nil => simp at hkl
        | cons a l => cases l with
          | nil => simp at hkl
          | cons a' l => simp at hki hki'; subst hki hki'; simp [hev ρ, hev' ρ]
      refine CondB.eq (fun e => ?_) fun e7 => ?_
      · have hkl : kids.length = 3 := by have := o3; simp [Fm.want, e] at this; omega
        obtain ⟨r, k, hri, hki, hin, hev, hro⟩ := hki2.at' (i := 0) (by omega)
        obtain ⟨r', k', hri', hki', hin', hev', hro'⟩ := hki2.at' (i := 1) (by omega)
        obtain ⟨r'', k'', hri'', hki'', hin'', hev'', hro''⟩ := hki2.at' (i := 2) (by omega)
        refine IA.of hki2.own.slr (by omega) (by exact hro) fun b' o' hld => Ld.a1 hld (ref ts2 r) rfl rfl ?_
        refine IA.of hki2.own.slr (by omega) (by exact hro') fun b' o' hld => Ld.a1 hld (ref ts2 r') rfl rfl ?_
        refine IA.of hki2.own.slr (by omega) (by exact hro'') fun b' o' hld => Ld.a1 hld (ref ts2 r'') rfl rfl ?_
        refine RunT.imp ?_ (ite_op af2.mgr hin hin' hin'' (by omega))
        intro H3 q hq
        refine OpRes.of af2 hq (by omega) fun ρ => ?_
        rw [hv0 ρ]
        simp only [e, hvl]
        cases kids with
        | nil => simp at hkl
        | cons a l => cases l with
          | nil => simp at hkl
          | cons a' l => cases l with
            | nil => simp at hkl
            | cons a'' l => simp at hki hki' hki''; subst hki hki' hki''; simp [hev ρ, hev' ρ, hev'' ρ]
      obtain ⟨mb, hmb⟩ : ∃ mb, m = .ptr (some (mb, 0)) := by obtain ⟨mb, _, _, _, _, _, _, hx⟩ := af2.mgr; exact ⟨mb, hx.m_eq⟩
      have hmul : kids.length * 65535 ≤ 65535 * Fm.sizes kids := by rw [Nat.mul_comm]; exact Nat.mul_le_mul_left _ hlen
      have hbnd : 131070 * Fm.sizes kids - 65535 * kids.length + kids.length * 65535 ≤ 131070 * (Fm.sizes kids + 1) - 65535 := by omega
      refine Fnc.mk (show ptrsC [m] = some [(mb, 0)] by rw [hmb]; rfl) (show ptrsC [] = some [] from rfl) (FA.mk (Ld.oi ho2 rfl (CondB.eq (fun e => ?_) fun e5 => ?_)))
      · refine Fnc.mk (show ptrsC [m] = some [(mb, 0)] by rw [hmb]; rfl) (show ptrsC [] = some [] from rfl) ?_
        have := join_c (m := m) (fn := .fn 53 [(mb, 0)] []) (op := fun x y => x || y) (start := false) (fun hm ha hb hsz => by
          have := or_c hm ha hb hsz
          rw [hmb] at this ⊢
          exact CVT.mk lt53 this) af2 hki2 hdis2 (by omega) (by omega) hbnd
        have e9 : (fun (H' : AHeap) (q : Int) => OpRes H m F ts (131070 * (Fm.sizes kids + 1) - 65535) (fun ρ => (kids.map (Fm.val ρ)).foldl (fun x y => x || y) false) H' q) = fun H' q => OpRes H m F ts (131070 * (Fm.sizes kids + 1) - 65535) (fun ρ => Fm.val ρ (.mk op var kids)) H' q := by
          have : (fun ρ => (kids.map (Fm.val ρ)).foldl (fun x y => x || y) false) = fun ρ => Fm.val ρ (.mk op var kids) := by
            funext ρ
            rw [hv0 ρ, if_neg (by omega), if_neg (by omega), if_neg (by omega), if_neg (by omega), if_neg (by omega), if_pos e, hvl, foldl_or]; rfl
          rw [this]
        rw [e9] at this
        exact this
      · have := join_c (m := m) (fn := .fn 52 [(mb, 0)] []) (op := fun x y => x && y) (start := true) (fun hm ha hb hsz => by
          have := and_c hm ha hb hsz
          rw [hmb] at this ⊢
          exact CVT.mk lt52 this) af2 hki2 hdis2 (by omega) (by omega) hbnd
        have e9 : (fun (H' : AHeap) (q : Int) => OpRes H m F ts (131070 * (Fm.sizes kids + 1) - 65535) (fun ρ => (kids.map (Fm.val ρ)).foldl (fun x y => x && y) true) H' q) = fun H' q => OpRes H m F ts (131070 * (Fm.sizes kids + 1) - 65535) (fun ρ => Fm.val ρ (.mk op var kids)) H' q := by
          have : (fun ρ => (kids.map (Fm.val ρ)).foldl (fun x y => x && y) true) = fun ρ => Fm.val ρ (.mk op var kids) := by
            funext ρ
            rw [hv0 ρ, if_neg (by omega), if_neg (by omega), if_neg (by omega), if_neg (by omega), if_neg (by omega), if_neg (by omega), hvl, foldl_and]; rfl
          rw [this]
        rw [e9] at this
        exact this
end Go.Proofs.Ytanaaabejeeakaa
end
section
namespace Go.Proofs.Ytanaaabejeeakaa
open Go.AI Go.AI.DT
theorem lt88 : 88 < Try.prog.funcs.size := (Array.getElem?_eq_some_iff.1 Try.func88).1
structure DP where
  (nb wb xb ob nm : Nat)
def DP.loc (p : DP) (y : Nat) : Prop := y = p.nb ∨ y = p.wb ∨ y = p.xb ∨ y = p.ob ∨ y = p.nm
structure DS (H : AHeap) (m : AC) (F : Nat → Prop) (ts : List DT) (p : DP) (Fo : Nat → Prop) (ns : AC) (es : List (List Int × Int)) (st : List DT) : Prop where
  mgr : Mgr H m F ts
  o1 : Own H p.nb [.map (some p.nm)]
  o2 : Own H p.wb [.fn 88 [] [(p.nb, 0), (p.wb, 0), (p.xb, 0), (p.ob, 0)]]
  o3 : Own H p.xb [m]
  o4 : ∃ r0, Own H p.ob [ns, .int .i64 r0]
  sl : OwnS H ns 3 Fo (st.map fun x => nodeCells (row st x))
  mp : MapI H p.nm none es
  eok : ∀ x n, In ts x → (findI [ref ts x] es = some n ↔ x ∈ st ∧ n = ref st x)
  fin : Fin st
  sub : ∀ x ∈ st, x ∈ ts
  d1 : ∀ y, F y → ¬ Fo y ∧ ¬ p.loc y
  d2 : ∀ y, Fo y → ¬ p.loc y
  ne : p.ob ≠ p.nb ∧ p.ob ≠ p.wb ∧ p.ob ≠ p.xb ∧ p.nm ≠ p.nb ∧ p.nm ≠ p.wb ∧ p.nm ≠ p.xb ∧ p.nm ≠ p.ob
theorem DS.kp {H H' : AHeap} {m : AC} {F : Nat → Prop} {ts : List DT} {p : DP} {Fo : Nat → Prop} {ns : AC} {es : List (List Int × Int)} {st : List DT} (h : DS H m F ts p Fo ns es st) (k : Kp H H') : DS H' m F ts p Fo ns es st :=
  ⟨h.mgr.kp k, h.o1.kp k, h.o2.kp k, h.o3.kp k, let ⟨r, o⟩ := h.o4; ⟨r, o.kp k⟩, h.sl.kp k, h.mp.kp k, h.eok, h.fin, h.sub, h.d1, h.d2, h.ne⟩
def Turned (p : DP) (Fo : Nat → Prop) (y : Nat) : Prop := y = p.ob ∨ y = p.nm ∨ Fo y
def DPost (H : AHeap) (m : AC) (F : Nat → Prop) (ts : List DT) (p : DP) (Fo : Nat → Prop) (st : List DT) (x : DT) (H' : AHeap) (q : Int) : Prop :=
  ∃ Fo' ns' es', DS H' m F ts p Fo' ns' es' (ser x st) ∧ Keep (Turned p Fo) H H' ∧ (∀ y, Fo' y → Fo y ∨ H.size ≤ y) ∧ q = ref (ser x st) x
theorem dwalk_c {m : AC} {F : Nat → Prop} {ts : List DT} {p : DP} (htl : ts.length < 4294967296) : ∀ (x : DT) {H : AHeap} {Fo : Nat → Prop} {ns : AC} {es : List (List Int × Int)} {st : List DT}, In ts x → DS H m F ts p Fo ns es st →
    Fn.Z36 (ref ts x) (.ptr (some (p.nb, 0))) (.ptr (some (p.wb, 0))) (.ptr (some (p.xb, 0))) (.ptr (some (p.ob, 0))) H fun H' q => DPost H m F ts p Fo st x H' q := by
  intro x
  induction x with
  | leaf b =>
    intro H Fo ns es st hx hd
    refine Z36.run ?_
    unfold Z36.W
    refine CondB.pos ?_ ⟨Fo, ns, es, hd, Keep.refl _ _, fun y h => .inl h, ?_⟩
    · rw [decide_eq_true_iff]; exact ref_leaf.2 ⟨b, rfl⟩
    · cases b <;> rfl
  | nd v l h ihl ihh =>
    intro H Fo ns es st hx hd
    have h0 : 0 ≤ ref ts (nd v l h) := by rw [ref_ge]; omega
    have hg := ref_get hx h0
    have hfin := hd.mgr.fin
    have hxm : nd v l h ∈ ts := hx.elim (fun ⟨b, e⟩ => by cases e) id
    obtain ⟨hinl, hinh, hro⟩ : In ts l ∧ In ts h ∧ (nd v l h).RO := by
      obtain ⟨_, _, _, e0, a1, a2, a3⟩ := hfin.parts _ hxm
      cases e0
      exact ⟨a1, a2, a3⟩
    refine Z36.run ?_
    unfold Z36.W
    refine CondB.neg (by rw [decide_eq_false_iff_not]; omega) (Ld.oc hd.o1 rfl (Look.i hd.mp rfl (fun n hf => ?_) fun hf => ?_))
    · obtain ⟨h1, h2⟩ := (hd.eok _ n hx).1 hf
      have hser : ser (nd v l h) st = st := by simp only [ser]; rw [if_pos h1]
      exact CondB.pos rfl ⟨Fo, ns, es, by rw [hser]; exact hd, Keep.refl _ _, fun y h => .inl h, by rw [hser]; exact h2⟩
    have hnin : nd v l h ∉ st := fun hin => by
      have := (hd.eok _ _ hx).2 ⟨hin, rfl⟩
      rw [hf] at this; cases this
    refine CondB.neg rfl (Ld.oc hd.o2 rfl (Ld.oc hd.o3 rfl ?_))
    -- the manager's node
    have node : ∀ {H : AHeap} {k : AC → Prop}, Mgr H m F ts → (∀ slc b o, SlR H slc 3 (ts.map fun x => nodeCells (row ts x)) → H.load (b, o) 3 = some (nodeCells (row ts (nd v l h))) → k (.ptr (some (b, o)))) →
        NN m (FA 0 m fun q => Ld [.ac] H q fun (vv : AC) => IA 3 vv (ref ts (nd v l h)) k) := by
      intro H k hm hk
      obtain ⟨mb, ib, db, Fs, slc, idx, done, hx'⟩ := hm
      obtain rfl := hx'.m_eq
      exact NN.ptr (FA.mk (Ld.oc hx'.own rfl (IA.of hx'.sl.slr h0 (r := nodeCells (row ts (nd v l h))) (by simp [hg]) fun b o hld => hk slc b o hx'.sl.slr hld)))
    refine node hd.mgr ?_; intro slc b o _ hld; refine FA.mk (Ld.ei hld rfl ?_)
    refine CVT.imp ?_ (CVT.mk lt88 (ihl hinl hd))
    rintro H1 q ⟨Fo1, ns1, es1, hd1, kp1, fr1, rfl⟩
    refine Ld.oc hd1.o2 rfl (Ld.oc hd1.o3 rfl (node hd1.mgr ?_)); intro slc b o _ hld; refine FA.mk (Ld.ei hld rfl ?_)
    refine CVT.imp ?_ (CVT.mk lt88 (ihh hinh hd1))
    rintro H2 q ⟨Fo2, ns2, es2, hd2, kp2, fr2, rfl⟩
    obtain ⟨r0, ho4⟩ := hd2.o4
    refine FA.mk (Ld.oc ho4 rfl (Ld.oc hd2.o3 rfl (node hd2.mgr ?_))); intro slc b o _ hld; refine FA.mk (Ld.ei hld rfl ?_)
    have hnin2 : nd v l h ∉ ser h (ser l st) := ser_new hnin
    have hil2 : In (ser h (ser l st)) l := (ser_in l st).mono (ser_prefix h _)
    have hih2 : In (ser h (ser l st)) h := ser_in h _
    have hrl : ref (ser l st) l = ref (ser h (ser l st)) l := (ref_mono (ser_in l st) (ser_prefix h _)).symm
    have hst2 : (ser h (ser l st)).length ≤ ts.length := hd2.fin.nodup.length_le_of_subset fun y hy => hd2.sub y hy
    have hser : ser (nd v l h) st = ser h (ser l st) ++ [nd v l h] := by simp only [ser]; rw [if_neg hnin]
    rw [hrl]
    obtain ⟨st2, hs2⟩ : ∃ s, s = ser h (ser l st) := ⟨_, rfl⟩
    rw [← hs2] at hd2 hnin2 hil2 hih2 hst2 hser ⊢
    refine NewS.own fun pb H3 hpb hs3 hbox3 hk3 => ?_
    have hd3 := hd2.kp hk3
    have hlF : ∀ y, Fo2 y → y < H2.size := hd2.sl.lt
    have hmF : ∀ y, F y → y < H2.size := hd2.mgr.lt
    have hob := ho4.lt
    have hnmb := hd2.mp.lt
    refine App.own hd3.sl (r := nodeCells ((v : Int), ref st2 l, ref st2 h)) ⟨pb, _, rfl, hbox3.all⟩ rfl (by rw [List.length_map]; omega) (by rw [List.length_map]; omega) fun ns4 H4 sl4 hk4 hs4 => ?_
    have ho4' := (ho4.kp hk3).keep hk4 (fun e => hd2.d2 _ e (.inr (.inr (.inr (.inl rfl)))))
    refine FA.mk (Sto.own ho4' (show 0 + 0 + 1 ≤ 2 by omega) fun H5 ho5 hk5 hs5 => ?_)
    simp only [List.take_zero, List.nil_append, List.cons_append, List.length_cons, List.length_nil, Nat.zero_add, Nat.add_zero, List.drop_succ_cons, List.drop_zero] at ho5
    have o15 := (hd3.o1.keep hk4 (fun e => hd2.d2 _ e (.inl rfl))).keep hk5 (fun e => hd2.ne.1 e.symm)
    have sl5 := sl4.keep hk5 (fun y e h => by
      subst e
      rcases h with h | h
      · exact hd2.d2 _ h (.inr (.inr (.inr (.inl rfl))))
      · omega)
    have mp5 := (hd3.mp.keep hk4 (fun e => hd2.d2 _ e (.inr (.inr (.inr (.inr rfl)))))).keep hk5 hd2.ne.2.2.2.2.2.2
    refine Ld.oc o15 rfl (FA.mk (Ld.oc ho5 rfl (LenS.of sl5.slr (MSet.i mp5 rfl fun H6 mp6 hk6 hs6 => ?_))))
    have o16 := o15.keep hk6 (fun e => hd2.ne.2.2.2.1 e.symm)
    have hlen : IntKind.wrap .i64 ((((st2.map fun x => nodeCells (row st2 x)) ++ [nodeCells ((v : Int), ref st2 l, ref st2 h)]).length : Int) - 1) = (st2.length : Int) := by
      simp only [List.length_append, List.length_map, List.length_cons, List.length_nil]
      exact (wrap64 (by omega) (by omega)).trans (by omega)
    rw [hlen] at mp6
    have hp : st2 <+: st2 ++ [nd v l h] := List.prefix_append _ _
    refine Ld.oc o16 rfl (Look.i mp6 rfl (fun n hf6 => ?_) fun hf6 => ?_)
    · rw [findI_set, if_pos rfl] at hf6
      simp only [Option.some.injEq] at hf6
      subst hf6
      refine ⟨fun y => Fo2 y ∨ y = H3.size, ns4, setI [ref ts (nd v l h)] (st2.length : Int) es2, ?_, ?_, ?_, ?_⟩
      · rw [hser]
        refine ⟨?_, o16, ?_, ?_, ⟨r0, ho5.keep hk6 (fun e => hd2.ne.2.2.2.2.2.2 e.symm)⟩, ?_, mp6, ?_, hd2.fin.snoc hnin2 hil2 hih2 hro, ?_, ?_, ?_, hd2.ne⟩
        · refine ((hd3.mgr.keep hk4 (fun y h1 h2 => (hd2.d1 y h2).1 h1)).keep hk5 (fun y e h2 => (hd2.d1 y h2).2 (.inr (.inr (.inr (.inl e)))))).keep hk6 (fun y e h2 => (hd2.d1 y h2).2 (.inr (.inr (.inr (.inr e)))))
        · exact ((hd3.o2.keep hk4 (fun e => hd2.d2 _ e (.inr (.inl rfl)))).keep hk5 (fun e => hd2.ne.2.1 e.symm)).keep hk6 (fun e => hd2.ne.2.2.2.2.1 e.symm)
        · exact ((hd3.o3.keep hk4 (fun e => hd2.d2 _ e (.inr (.inr (.inl rfl))))).keep hk5 (fun e => hd2.ne.2.2.1 e.symm)).keep hk6 (fun e => hd2.ne.2.2.2.2.2.1 e.symm)
        · have hrows : (st2 ++ [nd v l h]).map (fun x => nodeCells (row (st2 ++ [nd v l h]) x)) = (st2.map fun x => nodeCells (row st2 x)) ++ [nodeCells ((v : Int), ref st2 l, ref st2 h)] := by
            have e2 : st2.map (fun x => nodeCells (row (st2 ++ [nd v l h]) x)) = st2.map fun x => nodeCells (row st2 x) := by
              have := congrArg (List.map nodeCells) (hd2.fin.row_mono hp)
              simpa [List.map_map, Function.comp_def] using this
            rw [List.map_append, e2]
            simp only [List.map_cons, List.map_nil, row, ref_mono hil2 hp, ref_mono hih2 hp]
          rw [hrows]
          exact sl5.keep hk6 (fun y e h => by
            subst e
            rcases h with h | h
            · exact hd2.d2 _ h (.inr (.inr (.inr (.inr rfl))))
            · omega)
        · intro y n hy
          rw [findI_set]
          by_cases hyx : y = nd v l h
          · subst hyx
            rw [if_pos rfl, ref_new hnin2]
            constructor
            · intro e; simp only [Option.some.injEq] at e; exact ⟨by simp, e.symm⟩
            · rintro ⟨_, e⟩; rw [e]
          · rw [if_neg (fun e => hyx (ref_inj hy hx (by simpa using e.symm))), hd2.eok y n hy]
            constructor
            · rintro ⟨h1, h2⟩; exact ⟨List.mem_append_left _ h1, by rw [h2, ref_mono (.inr h1) hp]⟩
            · rintro ⟨h1, h2⟩
              rcases List.mem_append.1 h1 with h1 | h1
              · exact ⟨h1, by rw [h2, ref_mono (.inr h1) hp]⟩
              · simp at h1; exact absurd h1 hyx
        · intro y hy
          rcases List.mem_append.1 hy with hy | hy
          · exact hd2.sub y hy
          · simp at hy; subst hy; exact hxm
        · intro y hy
          refine ⟨?_, (hd2.d1 y hy).2⟩
          rintro (h | h)
          · exact (hd2.d1 y hy).1 h
          · have := hmF y hy; omega
        · rintro y (h | h) hl
          · exact hd2.d2 y h hl
          · have hloc : ∀ z, p.loc z → z < H2.size := by
              rintro z (e | e | e | e | e)
              · rw [e]; exact hd2.o1.lt
              · rw [e]; exact hd2.o2.lt
              · rw [e]; exact hd2.o3.lt
              · rw [e]; exact hob
              · rw [e]; exact hnmb
            have := hloc y hl; omega
      · have hz1 := kp1.size
        have hz2 := kp2.size
        have hT1 : ∀ y, y < H.size → Turned p Fo1 y → Turned p Fo y := by
          rintro y hy (e | e | e)
          · exact .inl e
          · exact .inr (.inl e)
          · rcases fr1 y e with e | e
            · exact .inr (.inr e)
            · omega
        have hF2 : ∀ y, y < H.size → Fo2 y → Fo y := by
          intro y hy e
          rcases fr2 y e with e | e
          · rcases fr1 y e with e | e
            · exact e
            · omega
          · omega
        refine Keep.trans (Keep.trans (Keep.trans (Keep.trans (Keep.trans kp1 kp2 hT1) hk3 fun _ _ h => h.elim) hk4 fun y hy e => .inr (.inr (hF2 y hy e))) hk5 fun y _ e => .inl e) hk6 fun y _ e => .inr (.inl e)
      · have hz1 := kp1.size
        have hz2 := kp2.size
        rintro y (h | h)
        · rcases fr2 y h with h | h
          · rcases fr1 y h with h | h
            · exact .inl h
            · exact .inr h
          · exact .inr (by omega)
        · exact .inr (by omega)
      · rw [hser, ref_new hnin2]
    · rw [findI_set, if_pos rfl] at hf6
      cases hf6
end Go.Proofs.Ytanaaabejeeakaa
end
section
namespace Go.Proofs.Ytanaaabejeeakaa
open Go.AI Go.AI.DT
theorem diagram_c {m : AC} {F : Nat → Prop} {ts : List DT} {x : DT} {H : AHeap} (hm : Mgr H m F ts) (hx : In ts x) (htl : ts.length < 4294967296) :
    Fn.Z35 m (ref ts x) H fun H' ns root => (∃ Fo, OwnS H' ns 3 Fo (nodeRows ((ser x []).map (row (ser x [])))) ∧ ∀ y, Fo y → H.size ≤ y) ∧ root = ref (ser x []) x ∧ Kp H H' := by
  refine Z35.run ?_
  unfold Z35.W
  have hF := hm.lt
  refine New.own fun b1 H1 hb1 hs1 o1 k1 => New.own fun b3 H3 hb3 hs3 o3 k3 => New.own fun b5 H5 hb5 hs5 o5 k5 => NewM.i none fun nm H6 hnm hs6 om k6 => ?_
  refine NewSto.own rfl fun b9 H9 hb9 hs9 o9 k9 => New.own fun b12 H12 hb12 hs12 o12 k12 => Fnc.mk rfl rfl ?_
  refine Sto.own o12 (Nat.le_refl 1) fun H13 o13 k13 hs13 => ?_
  simp only [List.take_zero, List.nil_append, List.length_cons, List.length_nil, Nat.zero_add, List.drop_succ_cons, List.drop_zero, List.cons_append] at o13
  have kk : Kp H H12 := ((((k1.trans k3).trans k5).trans k6).trans k9).trans k12
  have kk3 : Kp H H13 := kk.fresh k13 (fun x e => by omega)
  have hne13 : ∀ x, x < b12 → ¬ x = b12 := fun x h => by omega
  have o1' := ((((((o1.kp k3).kp k5).kp k6).kp k9).kp k12).keep k13 (hne13 _ (by omega)))
  have o3' := ((((o3.kp k5).kp k6).kp k9).kp k12).keep k13 (hne13 _ (by omega))
  have o5' := (((o5.kp k6).kp k9).kp k12).keep k13 (hne13 _ (by omega))
  have om' := ((om.kp k9).kp k12).keep k13 (hne13 _ (by omega))
  have o9' := (o9.kp k12).keep k13 (hne13 _ (by omega))
  obtain ⟨p, hp⟩ : ∃ p : DP, p = ⟨b9, b12, b1, b5, nm⟩ := ⟨_, rfl⟩
  have hd : DS H13 m F ts p (fun _ => False) (.sl none 0 0 (some 0)) [] [] := by
    subst hp
    refine ⟨hm.kp kk3, o9', o13, o1', ⟨0, o5'⟩, OwnS.nil _ _, om', fun y n _ => ?_, Fin.nil, fun _ h => (by cases h), fun y hy => ⟨id, ?_⟩, fun _ h => h.elim, ?_⟩
    · constructor
      · intro h; cases h
      · rintro ⟨h, _⟩; cases h
    · rintro (h | h | h | h | h) <;> (have := hF y hy; dsimp only at h; omega)
    · refine ⟨?_, ?_, ?_, ?_, ?_, ?_, ?_⟩ <;> dsimp only <;> omega
  refine Ld.oc o13 rfl (CVT.imp ?_ (by subst hp; exact CVT.mk lt88 (dwalk_c htl x hx hd)))
  rintro H14 q ⟨Fo, ns, es, hd4, k14, fr14, rfl⟩
  have kk4 : Kp H H14 := kk3.fresh k14 (by
    rintro y (h | h | h)
    · subst hp; have h' : y = b5 := h; omega
    · subst hp; have h' : y = nm := h; omega
    · exact h.elim)
  obtain ⟨r0, ho4⟩ := hd4.o4
  have o34 : Own H14 b3 [.sl none 0 0 (some 0), .int .i64 0] := o3'.keep k14 (by
    rintro (h | h | h)
    · subst hp; have h' : b3 = b5 := h; omega
    · subst hp; have h' : b3 = nm := h; omega
    · exact h.elim)
  subst hp
  refine FA.mk (Sto.own ho4 (show 1 + 1 ≤ 2 by omega) fun H15 o15 k15 hs15 => ?_)
  have o35 := o34.keep k15 (show ¬ b3 = b5 by omega)
  refine Ld.o2 o15 ns (ref (ser x []) x) rfl (Sto.own o35 (Nat.le_refl 2) fun H16 o36 k16 hs16 => ?_)
  refine Ld.o2 o36 ns (ref (ser x []) x) rfl ⟨⟨Fo, ?_, fun y h => ?_⟩, rfl, ?_⟩
  · unfold nodeRows
    rw [List.map_map]
    refine (hd4.sl.keep k15 (fun y e h => ?_)).keep k16 fun y e h => ?_
    · exact hd4.d2 y h (.inr (.inr (.inr (.inl e))))
    · rcases fr14 y h with h | h
      · exact h.elim
      · have := k13.size; have := k9.size; omega
  · rcases fr14 y h with h | h
    · exact h.elim
    · have := kk3.size; omega
  · exact (kk4.fresh k15 fun y e => by have e' : y = b5 := e; omega).fresh k16 fun y e => by have e' : y = b3 := e; omega
theorem result_c {m : AC} {F : Nat → Prop} {ts : List DT} {x : DT} {H : AHeap} (hm : Mgr H m F ts) (hx : In ts x) (htl : ts.length < 4294967296) :
    Fn.Z43 m (ref ts x) H fun H' ns root err => DResN H H' x ns root err ∧ Kp H H' := by
  refine Z43.run ?_
  unfold Z43.W
  refine New.own fun b1 H1 hb1 hs1 o1 k1 => ?_
  refine RunT.imp ?_ (diagram_c (hm.kp k1) hx htl)
  rintro H2 ns root ⟨⟨Fo, hsl, hFo⟩, rfl, k2⟩
  refine NewSto.own rfl fun b H3 hb hs3 ho k3 => FA.mk (Ld.oc ho rfl ?_)
  have hsl3 := hsl.kp k3
  have kk : Kp H H3 := (k1.trans k2).trans k3
  have o13 := (o1.kp k2).kp k3
  refine LenS.of hsl3.slr ?_
  have hlen : (nodeRows ((ser x []).map (row (ser x [])))).length = (ser x []).length := by simp [nodeRows]
  rw [hlen]
  have hsz := k1.size
  refine CondB.dec (fun hgt => ?_) fun hle => ?_
  · refine Sto.own o13 (Nat.le_refl 2) fun H4 o14 k4 hs4 => ?_
    exact Ld.o2 o14 (.sl none 0 0 (some 0)) (0 : Int) rfl ⟨⟨fun _ => False, fun _ h => h.elim, .inl ⟨by omega, rfl, rfl, OwnS.nil _ _⟩⟩, kk.fresh k4 fun y e => by have e' : y = b1 := e; omega⟩
  · refine Ld.o2 ho ns (ref (ser x []) x) rfl (Sto.own o13 (Nat.le_refl 2) fun H4 o14 k4 hs4 => ?_)
    refine Ld.o2 o14 ns (ref (ser x []) x) rfl ⟨⟨Fo, fun y h => by have := hFo y h; omega, .inr ⟨by omega, rfl, rfl, hsl3.keep k4 fun y e h => ?_⟩⟩, kk.fresh k4 fun y e => by have e' : y = b1 := e; omega⟩
    have e' : y = b1 := e
    have := hFo y h
    omega
def BRes (H0 H : AHeap) (f : Fm) (ns : AC) (root err : Int) : Prop :=
  (boolFaultOf f ≠ 0 ∧ err = boolFaultOf f ∧ root = 0 ∧ SlR H ns 3 []) ∨ (boolFaultOf f = 0 ∧ ∃ x : DT, x.RO ∧ (∀ ρ, x.eval ρ = f.val ρ) ∧ DResN H0 H x ns root err)
theorem Build_c {op var : Int} {s : AC} {f : Fm} {H : AHeap} (hmax : f.size < 4611686018427387904) (hf : FmB H.size H op var s f) :
    Fn.Z21 op var s H fun H' ns root err => BRes H H' f ns root err ∧ Kp H H' := by
  refine Z21.run ?_
  unfold Z21.W
  refine New.own fun b1 H1 hb1 hs1 o1 k1 => New.own fun b3 H3 hb3 hs3 o3 k3 => Ld.o3 (o1.kp k3) op var s rfl ?_
  have hf3 := hf.at'.kp (k1.trans k3)
  refine RunT.imp ?_ (CheckBool_c hmax hf3)
  rintro H4 e ⟨rfl, k4⟩
  have kk := (k1.trans k3).trans k4
  have hz1 := k1.size
  have hz3 := k3.size
  have hz4 := k4.size
  refine CondB.mk (fun hne => ?_) fun heq => ?_
  · refine Sto.own (o3.kp k4) (Nat.le_refl 2) fun H5 o5 k5 hs5 => ?_
    exact Ld.o2 o5 (.sl none 0 0 (some 0)) (0 : Int) rfl ⟨.inl ⟨by simpa using hne, rfl, rfl, SlR.nil _ _⟩, kk.fresh k5 fun y e => by have e' : y = b3 := e; omega⟩
  · have h0 : boolFaultOf f = 0 := by simpa using heq
    have hsz300 : f.size ≤ 300 ∧ f.fault = 0 := by
      unfold boolFaultOf at h0
      split at h0
      · cases h0
      · exact ⟨by omega, h0⟩
    refine RunT.imp ?_ newManager_c
    rintro H5 m ⟨⟨F, hm, hF⟩, k5⟩
    refine Ld.o3 (((o1.kp k3).kp k4).kp k5) op var s rfl ?_
    have kk5 := kk.trans k5
    have hfB : FmB H.size H5 op var s f := hf.move fun b hb => kk5.get b hb id
    have hz5 := k5.size
    refine RunT.imp ?_ (build_c f.size (Nat.le_refl _) hsz300.1 hsz300.2 hfB (by omega) hm (fun x hx => by have := hF x hx; omega) ?_)
    · rintro H6 q ⟨F6, ts6, r, af, hin, rfl, hev⟩
      have hz6 := af.keep.size
      have htl : ts6.length < 4294967296 := by
        have := af.len
        have h300 := hsz300.1
        simp only [List.length_nil, Nat.zero_add] at this
        omega
      refine RunT.imp ?_ (result_c af.mgr hin htl)
      rintro H7 ns root err ⟨hres, k7⟩
      have kk6 : Kp H H6 := kk5.fresh af.keep fun x hx => by have := hF x hx; omega
      have kk7 := kk6.trans k7
      have o37 : Own H7 b3 _ := ((((o3.kp k4).kp k5).keep af.keep fun hx => by have := hF _ hx; omega)).kp k7
      refine Sto.own o37 (Nat.le_refl 2) fun H8 o8 k8 hs8 => Ld.o2 o8 ns root rfl ⟨.inr ⟨h0, r, af.mgr.fin.ro hin, hev, ?_⟩, kk7.fresh k8 fun y e => by have e' : y = b3 := e; omega⟩
      exact (hres.keep k8 fun y e => by have e' : y = b3 := e; omega).from (by omega)
    · have h300 := hsz300.1
      simp only [List.length_nil, Nat.zero_add]
      omega
end Go.Proofs.Ytanaaabejeeakaa
end
section
namespace Go.AI
open DT
abbrev NRow := Int × Int × Int
def atR (ts : List DT) (r : Int) : DT := if r = -1 then leaf false else if r = -2 then leaf true else ts[r.toNat]?.getD (leaf false)
def bldStep (ts : List DT) (p : NRow) : List DT := ts ++ [DT.mk p.1.toNat (atR ts p.2.1) (atR ts p.2.2)]
def bld (l : List NRow) : List DT := l.foldl bldStep []
theorem bld_snoc (l : List NRow) (p : NRow) : bld (l ++ [p]) = bldStep (bld l) p := by simp [bld]
theorem bld_len' : ∀ (l : List NRow) (ts : List DT), (l.foldl bldStep ts).length = ts.length + l.length
  | [], ts => by simp
  | p :: l, ts => by rw [List.foldl_cons, bld_len' l, bldStep]; simp; omega
theorem bld_len (l : List NRow) : (bld l).length = l.length := by rw [bld, bld_len']; simp
theorem bld_pre' : ∀ (l : List NRow) (ts : List DT), ts <+: l.foldl bldStep ts
  | [], ts => List.prefix_rfl
  | p :: l, ts => by rw [List.foldl_cons]; exact (List.prefix_append _ _).trans (bld_pre' l _)
theorem bld_take_pre (l : List NRow) (i : Nat) : bld (l.take i) <+: bld l := by
  have e : bld l = (l.drop i).foldl bldStep (bld (l.take i)) := by
    unfold bld
    rw [← List.foldl_append, List.take_append_drop]
  rw [e]
  exact bld_pre' _ _
theorem bld_take_succ {l : List NRow} {i : Nat} {p : NRow} (h : l[i]? = some p) : bld (l.take (i + 1)) = bldStep (bld (l.take i)) p := by
  rw [List.take_add_one, h]
  exact bld_snoc _ _
theorem atR_mono {ts ts' : List DT} (hp : ts <+: ts') {r : Int} (h0 : -2 ≤ r) (h : r < ts.length) : atR ts' r = atR ts r := by
  unfold atR
  split
  · rfl
  split
  · rfl
  obtain ⟨s, rfl⟩ := hp
  rw [List.getElem?_append_left (by omega)]
theorem atR_ref {st : List DT} {x : DT} (h : In st x) : atR st (ref st x) = x := by
  unfold atR
  split
  · next e => exact (ref_false.1 e).symm
  split
  · next e => exact (ref_true.1 e).symm
  · next h1 h2 =>
    have := (ref_lt h).1
    rw [ref_get h (by omega)]; rfl
def scan : Nat → List NRow → Int
  | _, [] => 0
  | i, p :: l => if p.1 < 0 ∨ 16 ≤ p.1 then 1 else if p.2.1 < -2 ∨ (i : Int) ≤ p.2.1 ∨ p.2.2 < -2 ∨ (i : Int) ≤ p.2.2 then 2 else scan (i + 1) l
def NumOk (i : Nat) (p : NRow) : Prop := 0 ≤ p.1 ∧ p.1 < 16 ∧ -2 ≤ p.2.1 ∧ p.2.1 < i ∧ -2 ≤ p.2.2 ∧ p.2.2 < i
theorem scan_ok : ∀ {l : List NRow} {i : Nat}, scan i l = 0 ↔ ∀ (j : Nat) (p : NRow), l[j]? = some p → NumOk (i + j) p
  | [], i => by simp [scan]
  | p :: l, i => by
    simp only [scan]
    constructor
    · intro h j q hq
      split at h
      · cases h
      split at h
      · cases h
      next h1 h2 =>
        cases j with
        | zero => simp only [List.getElem?_cons_zero, Option.some.injEq] at hq; subst hq; simp only [Nat.add_zero]; unfold NumOk; omega
        | succ j =>
          simp only [List.getElem?_cons_succ] at hq
          have := scan_ok.1 h j q hq
          rwa [show i + 1 + j = i + (j + 1) from by omega] at this
    · intro h
      have h0 := h 0 p rfl
      simp only [Nat.add_zero] at h0
      unfold NumOk at h0
      rw [if_neg (by omega), if_neg (by omega)]
      refine scan_ok.2 fun j q hq => ?_
      have := h (j + 1) q (by simpa using hq)
      rwa [show i + 1 + j = i + (j + 1) from by omega]
theorem scan_drop {l : List NRow} {i : Nat} {p : NRow} (h : l[i]? = some p) : scan i (l.drop i) = if p.1 < 0 ∨ 16 ≤ p.1 then 1 else if p.2.1 < -2 ∨ (i : Int) ≤ p.2.1 ∨ p.2.2 < -2 ∨ (i : Int) ≤ p.2.2 then 2 else scan (i + 1) (l.drop (i + 1)) := by
  obtain ⟨hlt, e⟩ := List.getElem?_eq_some_iff.1 h
  rw [List.drop_eq_getElem_cons hlt, e]
  rfl
def OrdOk (l : List NRow) (p : NRow) : Prop := (∀ q, 0 ≤ p.2.1 → l[p.2.1.toNat]? = some q → p.1 < q.1) ∧ ∀ q, 0 ≤ p.2.2 → l[p.2.2.toNat]? = some q → p.1 < q.1
def RowsOk (l : List NRow) : Prop := ∀ (i : Nat) (p : NRow), l[i]? = some p → NumOk i p ∧ OrdOk l p
theorem bld_at {l : List NRow} {i : Nat} {p : NRow} (hp : l[i]? = some p) (hn : NumOk i p) : (bld l)[i]? = some (DT.mk p.1.toNat (atR (bld l) p.2.1) (atR (bld l) p.2.2)) := by
  have hlt := (List.getElem?_eq_some_iff.1 hp).1
  have hlen : (bld (l.take i)).length = i := by rw [bld_len, List.length_take]; omega
  have e := bld_take_succ hp
  have hpre := bld_take_pre l (i + 1)
  rw [e] at hpre
  obtain ⟨s, hs⟩ := hpre
  have hpre0 := bld_take_pre l i
  unfold NumOk at hn
  rw [atR_mono hpre0 hn.2.2.1 (by rw [hlen]; omega), atR_mono hpre0 hn.2.2.2.2.1 (by rw [hlen]; omega), ← hs]
  unfold bldStep
  rw [List.getElem?_append_left (by simp; omega), List.getElem?_append_right (by omega), hlen]
  simp
theorem bld_ro {l : List NRow} (h : RowsOk l) : ∀ (n i : Nat) (p : NRow), i < n → l[i]? = some p → ∃ x, (bld l)[i]? = some x ∧ x.RO ∧ p.1.toNat ≤ x.top := by
  intro n
  induction n with
  | zero => intro i p hi; omega
  | succ n ih =>
    intro i p hi hp
    obtain ⟨hn, ho1, ho2⟩ := h i p hp
    have hlt := (List.getElem?_eq_some_iff.1 hp).1
    refine ⟨_, bld_at hp hn, ?_⟩
    have part : ∀ r : Int, -2 ≤ r → r < i → (∀ q, 0 ≤ r → l[r.toNat]? = some q → p.1 < q.1) → (atR (bld l) r).RO ∧ p.1.toNat < (atR (bld l) r).top := by
      intro r h1 h2 h3
      unfold NumOk at hn
      unfold atR
      split
      · exact ⟨trivial, by simp only [top]; omega⟩
      split
      · exact ⟨trivial, by simp only [top]; omega⟩
      · have hr : r.toNat < l.length := by omega
        obtain ⟨x, e1, e2, e3⟩ := ih r.toNat l[r.toNat] (by omega) (List.getElem?_eq_getElem hr)
        rw [e1]
        have := h3 l[r.toNat] (by omega) (List.getElem?_eq_getElem hr)
        have hq := (h _ _ (List.getElem?_eq_getElem hr)).1
        unfold NumOk at hq
        exact ⟨e2, by simp only [Option.getD_some]; omega⟩
    have hn' := hn
    unfold NumOk at hn'
    obtain ⟨a1, a2⟩ := part p.2.1 hn'.2.2.1 hn'.2.2.2.1 ho1
    obtain ⟨b1, b2⟩ := part p.2.2 hn'.2.2.2.2.1 hn'.2.2.2.2.2 ho2
    exact ⟨mk_RO (by omega) a2 b2 a1 b1, mk_top a2⟩
theorem atR_ro {l : List NRow} (h : RowsOk l) {r : Int} : (atR (bld l) r).RO := by
  unfold atR
  split
  · trivial
  split
  · trivial
  · cases e : (bld l)[r.toNat]? with
    | none => trivial
    | some x =>
      have hlt := (List.getElem?_eq_some_iff.1 e).1
      rw [bld_len] at hlt
      obtain ⟨y, e1, e2, _⟩ := bld_ro h _ r.toNat l[r.toNat] (Nat.lt_succ_self _) (List.getElem?_eq_getElem hlt)
      rw [e1] at e
      cases e
      exact e2
def Seq (st : List DT) : Prop := Fin st ∧ ∀ (i v : Nat) (l h : DT), st[i]? = some (nd v l h) → In (st.take i) l ∧ In (st.take i) h
theorem Seq.nil : Seq [] := ⟨Fin.nil, fun i v l h e => by simp at e⟩
theorem Seq.snoc {st : List DT} {v : Nat} {l h : DT} (f : Seq st) (hn : nd v l h ∉ st) (hl : In st l) (hh : In st h) (hr : (nd v l h).RO) : Seq (st ++ [nd v l h]) := by
  refine ⟨f.1.snoc hn hl hh hr, fun i w a b e => ?_⟩
  by_cases hi : i < st.length
  · rw [List.getElem?_append_left hi] at e
    rw [List.take_append_of_le_length (by omega)]
    exact f.2 i w a b e
  · have hi' : i = st.length := by
      have := (List.getElem?_eq_some_iff.1 e).1
      simp at this; omega
    subst hi'
    rw [List.getElem?_append_right (Nat.le_refl _)] at e
    simp at e
    obtain ⟨rfl, rfl, rfl⟩ := e
    rw [List.take_append_of_le_length (Nat.le_refl _), List.take_length]
    exact ⟨hl, hh⟩
theorem ser_seq : ∀ (x : DT) (st : List DT), x.RO → Seq st → Seq (ser x st)
  | leaf _, st, _, f => f
  | nd v l h, st, hr, f => by
    simp only [ser]
    split
    · exact f
    · next hn =>
      have f1 := ser_seq l st hr.2.2.2.2.1 f
      have f2 := ser_seq h (ser l st) hr.2.2.2.2.2 f1
      exact f2.snoc (ser_new hn) ((ser_in l st).mono (ser_prefix h _)) (ser_in h _) hr
theorem in_take {st : List DT} {x : DT} (i : Nat) (h : In (st.take i) x) : In st x ∧ ref st x < i := by
  have hp : st.take i <+: st := List.take_prefix _ _
  refine ⟨h.mono hp, ?_⟩
  rw [ref_mono h hp]
  have := (ref_lt h).2
  rw [List.length_take] at this
  omega
theorem ref_idx {st : List DT} (f : Fin st) {i : Nat} {x : DT} (h : st[i]? = some x) : ref st x = i := by
  have hm : x ∈ st := List.mem_of_getElem? h
  obtain ⟨v, l, r, rfl, _⟩ := f.parts x hm
  rw [ref_ge]
  have hlt := (List.getElem?_eq_some_iff.1 h).1
  have e := (List.getElem?_eq_some_iff.1 h).2
  rw [← e, f.nodup.idxOf_getElem]
theorem seq_rows {st : List DT} (f : Seq st) : RowsOk (st.map (row st)) := by
  intro i p hp
  rw [List.getElem?_map, Option.map_eq_some_iff] at hp
  obtain ⟨x, hx, rfl⟩ := hp
  obtain ⟨v, l, h, rfl, h1, h2, h3⟩ := f.1.parts x (List.mem_of_getElem? hx)
  obtain ⟨i1, i2⟩ := f.2 i v l h hx
  obtain ⟨_, r1⟩ := in_take i i1
  obtain ⟨_, r2⟩ := in_take i i2
  have b1 := (ref_lt h1).1
  have b2 := (ref_lt h2).1
  have hv := h3.1
  refine ⟨⟨?_, ?_, b1, r1, b2, r2⟩, ?_, ?_⟩
  · show (0 : Int) ≤ (v : Int); omega
  · show (v : Int) < 16; omega
  · intro q h0 hq
    have h0' : 0 ≤ ref st l := h0
    have hq' : (st.map (row st))[(ref st l).toNat]? = some q := hq
    rw [List.getElem?_map, ref_get h1 h0'] at hq'
    simp only [Option.map_some, Option.some.injEq] at hq'
    subst hq'
    show (v : Int) < _
    have ht := h3.2.2.1
    cases l with
    | leaf b => cases b <;> simp [ref] at h0'
    | nd w a b => simp only [top] at ht; show (v : Int) < (w : Int); omega
  · intro q h0 hq
    have h0' : 0 ≤ ref st h := h0
    have hq' : (st.map (row st))[(ref st h).toNat]? = some q := hq
    rw [List.getElem?_map, ref_get h2 h0'] at hq'
    simp only [Option.map_some, Option.some.injEq] at hq'
    subst hq'
    show (v : Int) < _
    have ht := h3.2.2.2.1
    cases h with
    | leaf b => cases b <;> simp [ref] at h0'
    | nd w a b => simp only [top] at ht; show (v : Int) < (w : Int); omega
theorem bld_rows {st : List DT} (f : Seq st) : bld (st.map (row st)) = st := by
  have key : ∀ n, n ≤ st.length → bld ((st.map (row st)).take n) = st.take n := by
    intro n
    induction n with
    | zero => intro _; rfl
    | succ n ih =>
      intro hn
      have hx : st[n]? = some st[n] := List.getElem?_eq_getElem (by omega)
      have hp : (st.map (row st))[n]? = some (row st st[n]) := by rw [List.getElem?_map, hx]; rfl
      rw [bld_take_succ hp, ih (by omega)]
      obtain ⟨y, hy⟩ : ∃ y, y = st[n] := ⟨_, rfl⟩
      rw [← hy] at hx ⊢
      obtain ⟨v, l, h, rfl, _, _, h3⟩ := f.1.parts y (List.mem_of_getElem? hx)
      obtain ⟨i1, i2⟩ := f.2 n v l h hx
      have hpre : st.take n <+: st := List.take_prefix _ _
      unfold bldStep
      simp only [row]
      rw [ref_mono i1 hpre, ref_mono i2 hpre, atR_ref i1, atR_ref i2, Int.toNat_natCast, List.take_add_one, hx, DT.mk, if_neg h3.2.1]
      rfl
  have := key st.length (Nat.le_refl _)
  rwa [List.take_of_length_le (by simp), List.take_length] at this
def CanonD (l : List NRow) (r : Int) : Prop := ∃ x : DT, x.RO ∧ l = (ser x []).map (row (ser x [])) ∧ r = ref (ser x []) x
theorem CanonD.of {l : List NRow} {r : Int} (h : CanonD l r) : RowsOk l ∧ -2 ≤ r ∧ r < l.length ∧ (atR (bld l) r).RO ∧ l = (ser (atR (bld l) r) []).map (row (ser (atR (bld l) r) [])) ∧ r = ref (ser (atR (bld l) r) []) (atR (bld l) r) := by
  obtain ⟨x, h1, rfl, rfl⟩ := h
  have f := ser_seq x [] h1 Seq.nil
  have hin := ser_in x []
  have e : atR (bld ((ser x []).map (row (ser x [])))) (ref (ser x []) x) = x := by rw [bld_rows f, atR_ref hin]
  rw [e]
  exact ⟨seq_rows f, (ref_lt hin).1, by rw [List.length_map]; exact (ref_lt hin).2, h1, rfl, rfl⟩
theorem CanonD.mk {l : List NRow} {r : Int} (h : RowsOk l) (h1 : l = (ser (atR (bld l) r) []).map (row (ser (atR (bld l) r) []))) (h2 : r = ref (ser (atR (bld l) r) []) (atR (bld l) r)) : CanonD l r :=
  ⟨_, atR_ro h, h1, h2⟩
open Classical in
noncomputable def dFault (l : List NRow) (r : Int) : Int := if 2000 < l.length then 3 else if scan 0 l ≠ 0 then scan 0 l else if CanonD l r then 0 else 2
end Go.AI
end
section
namespace Go.Proofs.Ytanaaabejeeakaa
open Go.AI Go.AI.DT
theorem lt84 : 84 < Try.prog.funcs.size := (Array.getElem?_eq_some_iff.1 Try.func84).1
def Old (H0 H : AHeap) : Prop := H0.size ≤ H.size ∧ ∀ b, b < H0.size → H.get b = H0.get b
theorem Old.refl (H : AHeap) : Old H H := ⟨Nat.le_refl _, fun _ _ => rfl⟩
theorem Old.keep {S : Nat → Prop} {H0 H H' : AHeap} (h : Old H0 H) (k : Keep S H H') (hS : ∀ b, S b → H0.size ≤ b) : Old H0 H' :=
  ⟨Nat.le_trans h.1 k.size, fun b hb => (k.get b (Nat.lt_of_lt_of_le hb h.1) fun e => by have := hS b e; omega).trans (h.2 b hb)⟩
theorem Old.kp {H0 H H' : AHeap} (h : Old H0 H) (k : Kp H H') : Old H0 H' := h.keep k fun _ h => h.elim
theorem Kp.old {H H' : AHeap} (k : Kp H H') : Old H H' := (Old.refl H).kp k
theorem _root_.Go.AI.SlR.old {H0 H : AHeap} {s : AC} {sz : Nat} {rows : List (List AC)} (h : SlR H0 s sz rows) (o : Old H0 H) : SlR H s sz rows := by
  obtain ⟨a, z, cap, e, hr⟩ := h.ex
  refine ⟨a, z, cap, e, fun i r hi => ?_⟩
  obtain ⟨hz, b, o', e1, hld⟩ := hr i r hi
  refine ⟨hz, b, o', e1, ?_⟩
  unfold AHeap.load at hld ⊢
  simp only at hld ⊢
  cases hg : H0.get b with
  | none => rw [hg] at hld; cases hld
  | some x => rw [hg] at hld; rw [o.2 b (AHeap.get_lt hg), hg]; exact hld
theorem add1_c {pb cb : Nat} {cs : List AC} {H : AHeap} {r q : Int} {n : Nat} (hp : Own H pb [.sl (some (cb, 0)) 1 n (some n)]) (hc : Own H cb cs) (hn : cs.length = n) (h : if r < 0 then q = r else cs[r.toNat]? = some (.int .i64 q)) :
    Fn.Z32 r (.ptr (some (pb, 0))) H fun H' v => H' = H ∧ v = q := by
  refine Z32.run ?_
  unfold Z32.W
  refine CondB.dec (fun h0 => ⟨rfl, ?_⟩) fun h0 => ?_
  · rw [if_pos h0] at h; exact h.symm
  · rw [if_neg h0] at h
    have hlt := (List.getElem?_eq_some_iff.1 h).1
    refine Ld.oc hp rfl (IA.mk (by omega) (by omega) (Ld.oi hc ?_ ⟨rfl, rfl⟩))
    rw [Nat.zero_add, Nat.mul_one]; exact h
def Made (ts : List DT) (l : List NRow) (i : Nat) (cs : List AC) : Prop := ∀ j, j < i → ∀ t, (bld l)[j]? = some t → In ts t ∧ cs[j]? = some (.int .i64 (ref ts t))
theorem Made.look {ts : List DT} {l : List NRow} {i : Nat} {cs : List AC} (h : Made ts l i cs) {r : Int} (h2 : -2 ≤ r) (hi : r < i) (hl : i ≤ l.length) : In ts (atR (bld l) r) ∧ if r < 0 then ref ts (atR (bld l) r) = r else cs[r.toNat]? = some (.int .i64 (ref ts (atR (bld l) r))) := by
  unfold atR
  by_cases h1 : r = -1
  · subst h1
    rw [if_pos rfl, if_pos (by omega)]
    exact ⟨.inl ⟨false, rfl⟩, rfl⟩
  rw [if_neg h1]
  by_cases h3 : r = -2
  · subst h3
    rw [if_pos rfl, if_pos (by omega)]
    exact ⟨.inl ⟨true, rfl⟩, rfl⟩
  rw [if_neg h3, if_neg (by omega)]
  have hlt : r.toNat < (bld l).length := by rw [bld_len]; omega
  rw [List.getElem?_eq_getElem hlt, Option.getD_some]
  exact h r.toNat (by omega) _ (List.getElem?_eq_getElem hlt)
theorem Made.mono {ts ts' : List DT} {l : List NRow} {i : Nat} {cs : List AC} (h : Made ts l i cs) (hp : ts <+: ts') : Made ts' l i cs := fun j hj t ht => by
  obtain ⟨h1, h2⟩ := h j hj t ht
  exact ⟨h1.mono hp, by rw [ref_mono h1 hp]; exact h2⟩
theorem add_c {m : AC} {F : Nat → Prop} {ts : List DT} {s : AC} {l : List NRow} {r : Int} {H0 H : AHeap} (hs : SlR H0 s 3 (nodeRows l)) (ho : Old H0 H) (hm : Mgr H m F ts) (hF : ∀ x, F x → H0.size ≤ x)
    (hok : RowsOk l) (hr1 : -2 ≤ r) (hr2 : r < l.length) (hlen : l.length ≤ 2000) (hsz : ts.length + 2001 ≤ 4294967296) :
    Fn.Z31 m s r H fun H' q => ∃ F' ts', After H m F ts 2000 H' F' ts' ∧ In ts' (atR (bld l) r) ∧ q = ref ts' (atR (bld l) r) := by
  refine Z31.run ?_
  unfold Z31.W
  refine New.own fun b1 H1 hb1 hs1 o1 k1 => FA.mk (Ld.oc o1 rfl (LenS.of (hs.old (ho.kp k1)) ?_))
  rw [nodeRows_len]
  refine MkS.own (n := l.length) (by omega) (by omega) fun cb H2 hcb hs2 oc k2 => NewSto.own rfl fun pb H3 hpb hs3 op k3 => Fnc.mk rfl rfl ?_
  have o13 := (o1.kp k2).kp k3
  have oc3 := oc.kp k3
  refine FA.mk (Ld.oc o13 rfl (LenS.of (hs.old (((ho.kp k1).kp k2).kp k3)) ?_))
  rw [nodeRows_len]
  have kk := (k1.trans k2).trans k3
  have hz := ho.1
  unfold Z31.l10
  refine LoopT.rule (fun mm s0 H4 => ∃ (i : Nat) (F4 : Nat → Prop) (ts4 : List DT) (cs : List AC), i ≤ l.length ∧ mm = l.length - i ∧ s0 = (m, .ptr (some (b1, 0)), .ptr (some (pb, 0)), .fn 84 [] [(pb, 0)], s, (l.length : Int), (i : Int), ()) ∧
    After H m F ts i H4 F4 ts4 ∧ Own H4 b1 [s, .int .i64 r] ∧ Own H4 pb [.sl (some (cb, 0)) 1 l.length (some l.length)] ∧ Own H4 cb cs ∧ cs.length = l.length ∧ Made ts4 l i cs ∧ (∀ x, F4 x → F x ∨ H3.size ≤ x) ∧ H3.size ≤ H4.size) l.length
    ⟨0, F, ts, _, by omega, by omega, rfl, ⟨hm.kp kk, List.prefix_rfl, by omega, kk.mono fun _ _ h => h.elim, fun x h => .inl h⟩, o13, op, oc3, by rw [List.length_replicate], fun j hj => by omega, fun x h => .inl h, Nat.le_refl _⟩ ?_
  rintro mm s0 H4 back ⟨i, F4, ts4, cs, hi, rfl, rfl, af, o14, op4, oc4, hcl, hmade, hF4, hz4⟩ hback
  simp only [Z31.b10]
  have hold : Old H0 H4 := ho.keep af.keep hF
  have hs4 := hs.old hold
  refine CondB.dec (fun hlt => ?_) fun hge => ?_
  · have hi' : i < l.length := by omega
    obtain ⟨p, hp⟩ : ∃ b, l[i]? = some b := ⟨_, List.getElem?_eq_getElem hi'⟩
    obtain ⟨hnum, hord⟩ := hok i p hp
    have hnum' := hnum
    unfold NumOk at hnum'
    obtain ⟨n1, n2, n3, n4, n5, n6⟩ := hnum'
    refine IA.of hs4 (by omega) (by rw [Int.toNat_natCast]; exact nodeRow_at hp) fun b o hld => Ld.a3 hld p.1 p.2.1 p.2.2 rfl rfl ?_
    refine NewSto.own rfl fun nb H5 hnb hs5 on k5 => Ld.oc (op4.kp k5) rfl (FA.mk (Ld.oi on rfl (FA.mk (Ld.oi on rfl ?_))))
    have af5 : After H m F ts i H5 F4 ts4 := ⟨af.mgr.kp k5, af.pre, af.len, Keep.trans' af.keep k5, af.fresh⟩
    obtain ⟨in1, e1⟩ := hmade.look n3 n4 hi
    obtain ⟨in2, e2⟩ := hmade.look n5 n6 hi
    refine CVT.imp ?_ (CVT.mk lt84 (add1_c (op4.kp k5) (oc4.kp k5) hcl e1))
    rintro H6 q ⟨he, rfl⟩
    obtain rfl : H5 = H6 := he.symm
    refine FA.mk (Ld.oi on rfl (CVT.imp ?_ (CVT.mk lt84 (add1_c (op4.kp k5) (oc4.kp k5) hcl e2))))
    rintro H6 q ⟨he, rfl⟩
    obtain rfl : H5 = H6 := he.symm
    have hv : ∃ v : Nat, p.1 = (v : Int) ∧ v < 16 ∧ p.1.toNat = v := ⟨p.1.toNat, by omega, by omega, rfl⟩
    obtain ⟨v, hv1, hv2, hv3⟩ := hv
    have top : ∀ r : Int, -2 ≤ r → r < i → (∀ q, 0 ≤ r → l[r.toNat]? = some q → p.1 < q.1) → v < (atR (bld l) r).top := by
      intro r h1 h2 h3
      unfold atR
      split
      · exact hv2
      split
      · exact hv2
      · have hr : r.toNat < l.length := by omega
        obtain ⟨x, e1, _, e3⟩ := bld_ro hok _ r.toNat l[r.toNat] (Nat.lt_succ_self _) (List.getElem?_eq_getElem hr)
        rw [e1]
        have := h3 l[r.toNat] (by omega) (List.getElem?_eq_getElem hr)
        simp only [Option.getD_some]
        omega
    have hl4 := af5.len
    have hz5 := k5.size
    have hzk := kk.size
    rw [hv1]
    refine RunT.imp ?_ (node_c af5.mgr in1 in2 hv2 (top _ n3 n4 hord.1) (top _ n5 n6 hord.2) (by omega))
    rintro H6 q ⟨F6, ts6, af6, hin6, rfl⟩
    have hnF4 : ∀ y, H.size ≤ y → y < H3.size → ¬ F4 y := fun y h1 h2 h => by
      rcases hF4 y h with h | h
      · have := hm.lt y h; omega
      · omega
    have o16 := (o14.kp k5).keep af6.keep (hnF4 _ (by omega) (by omega))
    have op6 := (op4.kp k5).keep af6.keep (hnF4 _ (by omega) (by omega))
    have oc6 := (oc4.kp k5).keep af6.keep (hnF4 _ (by omega) (by omega))
    have hnn : ¬ F4 nb := fun h => by have := af.mgr.lt nb h; omega
    refine IA.mk (by omega) (by omega) ?_
    refine Sto.cell oc6 (by rw [hcl]; omega) fun H7 oc7 k7 hs7 => ?_
    have hle6 := af6.keep.size
    refine ⟨Same1.mk rfl, Same1.mk rfl, Same1.mk ((op6.cell rfl).trans ((op4.kp k5).cell rfl).symm), Same1.mk rfl, Same1.mk rfl, Same2.mk rfl, ?_⟩
    have hF6 : ∀ y, F6 y → F y ∨ H3.size ≤ y := fun y h => by
      rcases af6.fresh y h with h | h
      · exact hF4 y h
      · exact .inr (by omega)
    have hnF6 : ∀ y, y = cb → ¬ F6 y := fun y e h => by
      rcases hF6 y h with h | h
      · have := hm.lt y h; omega
      · omega
    have aft := af5.trans af6
    refine hback (l.length - (i + 1)) _ _ (by omega) ⟨i + 1, F6, ts6, _, by omega, rfl, ?_, ?_, o16.keep k7 (by omega), op6.keep k7 (by omega), oc7, by rw [List.length_set, hcl], ?_, hF6, by omega⟩
    · exact tc rfl (tc rfl (tc rfl (tc rfl (tc rfl (tc rfl (tc ((wrap64 (by omega) (by omega)).trans (by omega)) rfl))))))
    · refine ⟨aft.mgr.keep k7 hnF6, aft.pre, aft.len, ?_, aft.fresh⟩
      exact Keep.trans aft.keep k7 fun x hx e => by have e' : x = cb := e; omega
    · intro j hj t ht
      by_cases hji : j = i
      · subst hji
        rw [bld_at hp hnum, Option.some.injEq] at ht
        subst ht
        rw [hv3]
        refine ⟨hin6, ?_⟩
        simp only [Int.toNat_natCast, Nat.mul_one, Nat.zero_add]
        rw [List.getElem?_set_self (by omega)]
      · obtain ⟨g1, g2⟩ := (hmade.mono af6.pre) j (by omega) t ht
        refine ⟨g1, ?_⟩
        simp only [Int.toNat_natCast, Nat.mul_one, Nat.zero_add]
        rw [List.getElem?_set_ne (by omega)]
        exact g2
  · have : i = l.length := by omega
    subst this
    obtain ⟨in1, e1⟩ := hmade.look hr1 hr2 (Nat.le_refl _)
    refine FA.mk (Ld.oi o14 rfl (CVT.imp ?_ (CVT.mk lt84 (add1_c op4 oc4 hcl e1))))
    rintro H6 q ⟨he, rfl⟩
    obtain rfl : H4 = H6 := he.symm
    exact ⟨F4, ts4, ⟨af.mgr, af.pre, by have := af.len; omega, af.keep, af.fresh⟩, in1, rfl⟩
end Go.Proofs.Ytanaaabejeeakaa
end
section
namespace Go.Proofs.Ytanaaabejeeakaa
open Go.AI Go.AI.DT
theorem Equal_c {s s' : AC} {l l' : List NRow} {H : AHeap} (hs : SlR H s 3 (nodeRows l)) (hs' : SlR H s' 3 (nodeRows l')) (hlen : l'.length < 4611686018427387904) :
    Fn.Z15 s s' H fun H' q => H' = H ∧ q = decide (l = l') := by
  refine Z15.run ?_
  unfold Z15.W
  refine LenS.of hs (LenS.of hs' ?_)
  rw [nodeRows_len, nodeRows_len]
  refine CondB.ne (fun hne => ⟨rfl, ?_⟩) fun he => ?_
  · symm; rw [decide_eq_false_iff_not]; rintro rfl; exact hne rfl
  have hl : l.length = l'.length := by omega
  refine LenS.of hs ?_
  rw [nodeRows_len]
  unfold Z15.l14
  refine LoopT.rule (fun m s0 H3 => ∃ i : Nat, i ≤ l.length ∧ m = l.length - i ∧ s0 = (s, s', (l.length : Int), (i : Int), ()) ∧ H3 = H ∧ ∀ j, j < i → l[j]? = l'[j]?) l.length ⟨0, by omega, by omega, rfl, rfl, fun j h => by omega⟩ ?_
  rintro m s0 H3 back ⟨i, hi, rfl, rfl, rfl, hall⟩ hback
  simp only [Z15.b14]
  refine CondB.dec (fun hlt => ?_) fun hge => ?_
  · have hi' : i < l.length := by omega
    obtain ⟨p, hp⟩ : ∃ b, l[i]? = some b := ⟨_, List.getElem?_eq_getElem hi'⟩
    obtain ⟨p', hp'⟩ : ∃ b, l'[i]? = some b := ⟨_, List.getElem?_eq_getElem (by omega)⟩
    refine IA.of hs (by omega) (by rw [Int.toNat_natCast]; exact nodeRow_at hp) fun b1 o1 hld => Ld.a3 hld p.1 p.2.1 p.2.2 rfl rfl ?_
    refine IA.of hs' (by omega) (by rw [Int.toNat_natCast]; exact nodeRow_at hp') fun b1 o1 hld => Ld.a3 hld p'.1 p'.2.1 p'.2.2 rfl rfl ?_
    refine CondB.mk (fun hc => ⟨by trivial, ?_⟩) fun hc => ?_
    · symm
      rw [decide_eq_false_iff_not]
      rintro rfl
      rw [hp] at hp'
      cases hp'
      simp at hc
    · refine hback (l.length - (i + 1)) _ _ (by omega) ⟨i + 1, by omega, rfl, ?_, rfl, fun j hj => ?_⟩
      · exact tc rfl (tc rfl (tc rfl (tc ((wrap64 (by omega) (by omega)).trans (by omega)) rfl)))
      · by_cases hji : j = i
        · subst hji
          rw [hp, hp']
          have : p = p' := by
            simp only [Bool.not_eq_false', decide_eq_true_eq, List.cons.injEq, and_true] at hc
            exact Prod.ext hc.1 (Prod.ext hc.2.1 hc.2.2)
          rw [this]
        · exact hall j (by omega)
  · refine ⟨by trivial, ?_⟩
    symm
    rw [decide_eq_true_iff]
    apply List.ext_getElem?
    intro j
    by_cases hj : j < i
    · exact hall j hj
    · rw [List.getElem?_eq_none (by omega), List.getElem?_eq_none (by omega)]
theorem dFault_two {l : List NRow} {r : Int} (h1 : l.length ≤ 2000) (h2 : scan 0 l = 0) (h3 : ¬ CanonD l r) : dFault l r = 2 := by
  unfold dFault
  rw [if_neg (by omega), if_neg (by omega), if_neg h3]
theorem dFault_zero {l : List NRow} {r : Int} (h1 : l.length ≤ 2000) (h3 : CanonD l r) : dFault l r = 0 := by
  have h2 : scan 0 l = 0 := scan_ok.2 fun j p hp => by rw [Nat.zero_add]; exact (h3.of.1 j p hp).1
  unfold dFault
  rw [if_neg (by omega), if_neg (by omega), if_pos h3]
theorem dFault_scan {l : List NRow} {r : Int} (h1 : l.length ≤ 2000) {k : Int} (h2 : scan 0 l = k) (hk : k ≠ 0) : dFault l r = k := by
  unfold dFault
  rw [if_neg (by omega), if_pos (by omega), h2]
theorem CheckDiagram_c {s : AC} {l : List NRow} {r : Int} {H : AHeap} (hs : SlR H s 3 (nodeRows l)) :
    Fn.Z23 s r H fun H' q => q = dFault l r ∧ Kp H H' := by
  refine Z23.run ?_
  unfold Z23.W
  refine New.own fun b1 H1 hb1 hs1 o1 k1 => FA.mk (Ld.oc o1 rfl (LenS.of (hs.kp k1) ?_))
  rw [nodeRows_len]
  refine CondB.dec (fun hgt => ⟨?_, k1⟩) fun hle => ?_
  · unfold dFault; rw [if_pos (by omega)]
  have hlen : l.length ≤ 2000 := by omega
  refine FA.mk (Ld.oc o1 rfl (LenS.of (hs.kp k1) ?_))
  rw [nodeRows_len]
  unfold Z23.l14
  refine LoopT.rule (fun m s0 H2 => ∃ i : Nat, i ≤ l.length ∧ m = l.length - i ∧ s0 = (.ptr (some (b1, 0)), s, (l.length : Int), (i : Int), ()) ∧ Kp H H2 ∧ Own H2 b1 [s, .int .i64 r] ∧ scan 0 l = scan i (l.drop i)) l.length
    ⟨0, by omega, by omega, rfl, k1, o1, rfl⟩ ?_
  rintro m s0 H2 back ⟨i, hi, rfl, rfl, k2, o12, hsc⟩ hback
  simp only [Z23.b14]
  refine CondB.dec (fun hlt => ?_) fun hge => ?_
  · have hi' : i < l.length := by omega
    obtain ⟨p, hp⟩ : ∃ b, l[i]? = some b := ⟨_, List.getElem?_eq_getElem hi'⟩
    rw [scan_drop hp] at hsc
    refine IA.of (hs.kp k2) (by omega) (by rw [Int.toNat_natCast]; exact nodeRow_at hp) fun b o hld => Ld.a3 hld p.1 p.2.1 p.2.2 rfl rfl ?_
    refine NewSto.own rfl fun nb H3 hnb hs3 on k3 => FA.mk (Ld.oi on rfl ?_)
    have kk := k2.trans k3
    unfold Z23.p28
    refine CondB.dec (fun h0 => CondB.pos rfl ⟨?_, kk⟩) fun h0 => FA.mk (Ld.oi on rfl (CondB.dec (fun h1 => ⟨?_, kk⟩) fun h1 => ?_))
    · rw [if_pos (.inl h0)] at hsc; exact (dFault_scan hlen hsc (by omega)).symm
    · rw [if_pos (.inr (by omega))] at hsc; exact (dFault_scan hlen hsc (by omega)).symm
    rw [if_neg (by omega)] at hsc
    unfold Z23.p34
    refine FA.mk (Ld.oi on rfl (CondB.dec (fun h2 => CondB.pos rfl ⟨?_, kk⟩) fun h2 => FA.mk (Ld.oi on rfl (CondB.dec (fun h3 => CondB.pos rfl ⟨?_, kk⟩) fun h3 => FA.mk (Ld.oi on rfl (CondB.dec (fun h4 => CondB.pos rfl ⟨?_, kk⟩) fun h4 => FA.mk (Ld.oi on rfl (CondB.dec (fun h5 => ⟨?_, kk⟩) fun h5 => ?_))))))))
    · rw [if_pos (by omega)] at hsc; exact (dFault_scan hlen hsc (by omega)).symm
    · rw [if_pos (by omega)] at hsc; exact (dFault_scan hlen hsc (by omega)).symm
    · rw [if_pos (by omega)] at hsc; exact (dFault_scan hlen hsc (by omega)).symm
    · rw [if_pos (by omega)] at hsc; exact (dFault_scan hlen hsc (by omega)).symm
    rw [if_neg (by omega)] at hsc
    refine hback (l.length - (i + 1)) _ _ (by omega) ⟨i + 1, by omega, rfl, ?_, kk, o12.kp k3, hsc⟩
    exact tc rfl (tc rfl (tc rfl (tc ((wrap64 (by omega) (by omega)).trans (by omega)) rfl)))
  have hsc0 : scan 0 l = 0 := by
    rw [hsc, List.drop_eq_nil_iff.2 (by omega)]; rfl
  have hnum : ∀ j p, l[j]? = some p → NumOk j p := fun j p hp => by have := scan_ok.1 hsc0 j p hp; rwa [Nat.zero_add] at this
  refine FA.mk (Ld.oc o12 rfl (LenS.of (hs.kp k2) ?_))
  rw [nodeRows_len]
  unfold Z23.l44
  refine LoopT.rule (fun m s0 H3 => ∃ i : Nat, i ≤ l.length ∧ m = l.length - i ∧ s0 = (.ptr (some (b1, 0)), s, (l.length : Int), (i : Int), ()) ∧ Kp H H3 ∧ Own H3 b1 [s, .int .i64 r] ∧ ∀ j p, j < i → l[j]? = some p → OrdOk l p) l.length
    ⟨0, by omega, by omega, rfl, k2, o12, fun j p h => by omega⟩ ?_
  clear hback back
  rintro m s0 H3 back ⟨i, hi, rfl, rfl, k3, o13, hord⟩ hback
  simp only [Z23.b44]
  refine CondB.dec (fun hlt => ?_) fun hge => ?_
  · have hi' : i < l.length := by omega
    obtain ⟨p, hp⟩ : ∃ b, l[i]? = some b := ⟨_, List.getElem?_eq_getElem hi'⟩
    have hn := hnum i p hp
    unfold NumOk at hn
    obtain ⟨n1, n2, n3, n4, n5, n6⟩ := hn
    refine IA.of (hs.kp k3) (by omega) (by rw [Int.toNat_natCast]; exact nodeRow_at hp) fun b o hld => Ld.a3 hld p.1 p.2.1 p.2.2 rfl rfl ?_
    refine NewSto.own rfl fun nb H4 hnb hs4 on k4 => FA.mk (Ld.oi on rfl (FA.mk (Ld.oi on rfl (NewS.own fun ab H5 hab hs5 oa k5 => LenS.mk ?_))))
    have kk := (k3.trans k4).trans k5
    have on5 := on.kp k5
    have o15 := (o13.kp k4).kp k5
    unfold Z23.l58
    refine LoopT.rule (fun m s0 H6 => ∃ k : Nat, k ≤ 2 ∧ m = 2 - k ∧ s0 = (.ptr (some (b1, 0)), .ptr (some (nb, 0)), s, (l.length : Int), (i : Int), .sl (some (ab, 0)) 1 2 (some 2), (2 : Int), (k : Int), ()) ∧ H6 = H5 ∧
      (0 < k → ∀ q, 0 ≤ p.2.1 → l[p.2.1.toNat]? = some q → p.1 < q.1) ∧ (1 < k → ∀ q, 0 ≤ p.2.2 → l[p.2.2.toNat]? = some q → p.1 < q.1)) 2 ⟨0, by omega, rfl, rfl, rfl, fun h => by omega, fun h => by omega⟩ ?_
    rintro m s0 H6 back2 ⟨k, hk, rfl, rfl, rfl, hk1, hk2⟩ hback2
    simp only [Z23.b58]
    refine CondB.dec (fun hlt2 => ?_) fun hge2 => ?_
    · have hbad : ∀ c : Int, (c = p.2.1 ∨ c = p.2.2) → ∀ q, 0 ≤ c → l[c.toNat]? = some q → ¬ p.1 < q.1 → dFault l r = 2 := by
        intro c hc q h0 hq hlt
        refine dFault_two hlen hsc0 fun hcan => ?_
        have := (hcan.of.1 i p hp).2
        rcases hc with rfl | rfl
        · exact hlt (this.1 q h0 hq)
        · exact hlt (this.2 q h0 hq)
      have main : ∀ c : Int, (c = p.2.1 ∨ c = p.2.2) → ((∀ q, 0 ≤ c → l[c.toNat]? = some q → p.1 < q.1) → back2 (.ptr (some (b1, 0)), .ptr (some (nb, 0)), s, (l.length : Int), (i : Int), .sl (some (ab, 0)) 1 2 (some 2), (2 : Int), IntKind.wrap .i64 ((k : Int) + 1), ()) H6) →
          CondB (decide (c ≥ 0))
            (FA 0 (.ptr (some (b1, 0))) fun q_3 =>
            Ld [.ac] H6 q_3 fun (v_4 : AC) =>
            IA 3 v_4 c fun q_5 =>
            FA 0 q_5 fun q_6 =>
            Ld [.int .i64] H6 q_6 fun (v_7 : Int) =>
            FA 0 (.ptr (some (nb, 0))) fun q_8 =>
            Ld [.int .i64] H6 q_8 fun (v_9 : Int) =>
            Z23.p71 (fun H' q => q = dFault l r ∧ Kp H H') back back2 (.ptr (some (b1, 0))) (.ptr (some (nb, 0))) s (l.length : Int) (i : Int) (.sl (some (ab, 0)) 1 2 (some 2)) (2 : Int) (k : Int) (decide (v_7 ≤ v_9)) H6)
            (Z23.p71 (fun H' q => q = dFault l r ∧ Kp H H') back back2 (.ptr (some (b1, 0))) (.ptr (some (nb, 0))) s (l.length : Int) (i : Int) (.sl (some (ab, 0)) 1 2 (some 2)) (2 : Int) (k : Int) false H6) := by
        intro c hc hgo
        unfold Z23.p71
        refine CondB.dec (fun h0 => ?_) fun h0 => CondB.neg rfl (hgo fun q h1 => by omega)
        have hclt : c.toNat < l.length := by rcases hc with rfl | rfl <;> omega
        obtain ⟨q, hq⟩ : ∃ b, l[c.toNat]? = some b := ⟨_, List.getElem?_eq_getElem hclt⟩
        refine FA.mk (Ld.oc o15 rfl (IA.of (hs.kp kk) h0 (nodeRow_at hq) fun b o hld => FA.mk (Ld.ei hld rfl (FA.mk (Ld.oi on5 rfl ?_)))))
        refine CondB.dec (fun h1 => ⟨(hbad c hc q h0 hq (by omega)).symm, kk⟩) fun h1 => hgo fun q' _ hq' => ?_
        rw [hq] at hq'
        cases hq'
        omega
      refine IA.mk (by omega) (by omega) ?_
      have hk' : k = 0 ∨ k = 1 := by omega
      rcases hk' with rfl | rfl
      · refine Ld.oi oa rfl (main p.2.1 (.inl rfl) fun hq => ?_)
        exact hback2 1 _ _ (by omega) ⟨1, by omega, rfl, by trivial, rfl, fun _ => hq, fun h => by omega⟩
      · refine Ld.oi oa rfl (main p.2.2 (.inr rfl) fun hq => ?_)
        exact hback2 0 _ _ (by omega) ⟨2, by omega, rfl, by trivial, rfl, fun _ => hk1 (by omega), fun _ => hq⟩
    · refine hback (l.length - (i + 1)) _ _ (by omega) ⟨i + 1, by omega, rfl, ?_, kk, o15, fun j q hj hq => ?_⟩
      · exact tc rfl (tc rfl (tc rfl (tc ((wrap64 (by omega) (by omega)).trans (by omega)) rfl)))
      · by_cases hji : j = i
        · subst hji
          rw [hp] at hq
          cases hq
          exact ⟨hk1 (by omega), hk2 (by omega)⟩
        · exact hord j q (by omega) hq
  have hok : RowsOk l := fun j p hp => ⟨hnum j p hp, hord j p (by have := (List.getElem?_eq_some_iff.1 hp).1; omega) hp⟩
  unfold Z23.p81
  refine FA.mk (Ld.oi o13 rfl (CondB.dec (fun h1 => CondB.pos rfl ⟨?_, k3⟩) fun h1 => FA.mk (Ld.oi o13 rfl (FA.mk (Ld.oc o13 rfl (LenS.of (hs.kp k3) ?_))))))
  · exact (dFault_two hlen hsc0 fun hc => by have := hc.of.2.1; omega).symm
  rw [nodeRows_len]
  refine CondB.dec (fun h2 => ⟨?_, k3⟩) fun h2 => ?_
  · exact (dFault_two hlen hsc0 fun hc => by have := hc.of.2.2.1; omega).symm
  refine RunT.imp ?_ newManager_c
  rintro H4 m ⟨⟨F, hm, hF⟩, k4⟩
  have kk4 := k3.trans k4
  have hz3 := k3.size
  refine Ld.o2 (o13.kp k4) s r rfl (RunT.imp ?_ (add_c hs (Kp.old kk4) hm (fun x h => by have := hF x h; omega) hok (by omega) (by omega) hlen (by simp)))
  rintro H5 q ⟨F5, ts5, af, hin, rfl⟩
  have kk5 : Kp H H5 := kk4.fresh af.keep fun x h => by have := hF x h; omega
  have hl5 := af.len
  have o15 : Own H5 b1 [s, .int .i64 r] := (o13.kp k4).keep af.keep fun h => by have := hF _ h; have := o13.lt; omega
  refine RunT.imp ?_ (diagram_c af.mgr hin (by simp at hl5; omega))
  rintro H6 ns root ⟨⟨Fo, hsl, hFo⟩, rfl, k6⟩
  refine NewSto.own rfl fun nb H7 hnb hs7 on k7 => ?_
  have kk7 := (kk5.trans k6).trans k7
  have o17 := (o15.kp k6).kp k7
  refine FA.mk (Ld.oi on rfl (FA.mk (Ld.oi o17 rfl ?_)))
  unfold Z23.p93
  refine CondB.ne (fun hne => CondB.pos rfl ⟨?_, kk7⟩) fun he => ?_
  · exact (dFault_two hlen hsc0 fun hc => hne hc.of.2.2.2.2.2.symm).symm
  refine FA.mk (Ld.oc on rfl (FA.mk (Ld.oc o17 rfl (RunT.imp ?_ (Equal_c (hsl.kp k7).slr (hs.kp kk7) ?_)))))
  · rintro H8 q ⟨he', rfl⟩
    obtain rfl : H7 = H8 := he'.symm
    refine CondB.mk (fun hc => ⟨?_, kk7⟩) fun hc => ⟨?_, kk7⟩
    · exact (dFault_two hlen hsc0 fun hcan => by
        have := hcan.of.2.2.2.2.1
        rw [← this] at hc
        simp at hc).symm
    · have e : (ser (atR (bld l) r) []).map (row (ser (atR (bld l) r) [])) = l := by simpa using hc
      exact (dFault_zero hlen (CanonD.mk hok e.symm he.symm)).symm
  · omega
end Go.Proofs.Ytanaaabejeeakaa
end
section
namespace Go.AI
open DT
def cnt (n : Nat) : Nat → DT → Nat
  | _, leaf false => 0
  | v, leaf true => 2 ^ (n - v)
  | v, nd w l h => (cnt n (w + 1) l + cnt n (w + 1) h) * 2 ^ (w - v)
def VarsLt (n : Nat) : DT → Prop
  | leaf _ => True
  | nd w l h => w < n ∧ VarsLt n l ∧ VarsLt n h
theorem cnt_le (n : Nat) : ∀ (x : DT) (v : Nat), x.RO → VarsLt n x → v ≤ n → v ≤ x.top → cnt n v x ≤ 2 ^ (n - v)
  | leaf false, v, _, _, _, _ => Nat.zero_le _
  | leaf true, v, _, _, _, _ => Nat.le_refl _
  | nd w l h, v, hr, hv, h1, h2 => by
    obtain ⟨_, _, t1, t2, r1, r2⟩ := hr
    obtain ⟨u0, u1, u2⟩ := hv
    simp only [top] at h2
    have e1 := cnt_le n l (w + 1) r1 u1 (by omega) (by omega)
    have e2 := cnt_le n h (w + 1) r2 u2 (by omega) (by omega)
    simp only [cnt]
    have e3 : 2 ^ (n - v) = 2 ^ (n - (w + 1)) * 2 * 2 ^ (w - v) := by
      rw [← Nat.pow_succ, ← Nat.pow_add]
      congr 1
      omega
    rw [e3]
    exact Nat.mul_le_mul_right _ (by omega)
theorem cnt_top (n v w : Nat) (l h : DT) : cnt n v (nd w l h) = cnt n w (nd w l h) * 2 ^ (w - v) := by
  simp only [cnt, Nat.sub_self, Nat.pow_zero, Nat.mul_one]
theorem varsLt_mem {n : Nat} : ∀ (x : DT) (st : List DT), VarsLt n x → ∀ y ∈ ser x st, y ∈ st ∨ VarsLt n y
  | leaf _, st, _, y, hy => .inl hy
  | nd v l h, st, hv, y, hy => by
    simp only [ser] at hy
    split at hy
    · exact .inl hy
    · rcases List.mem_append.1 hy with hy | hy
      · rcases varsLt_mem h _ hv.2.2 y hy with hy | hy
        · exact varsLt_mem l _ hv.2.1 y hy
        · exact .inr hy
      · simp at hy; subst hy; exact .inr hv
end Go.AI
end
section
namespace Go.Proofs.Ytanaaabejeeakaa
open Go.AI Go.AI.DT
theorem lt86 : 86 < Try.prog.funcs.size := (Array.getElem?_eq_some_iff.1 Try.func86).1
theorem lt58 : 58 < Try.prog.funcs.size := (Array.getElem?_eq_some_iff.1 Try.func58).1
theorem IndexFunc_c {s fn : AC} {l : List NRow} {H : AHeap} {f : NRow → Bool} (hs : SlR H s 3 (nodeRows l)) (hlen : l.length < 4611686018427387904)
    (hf : ∀ (p : NRow) (H2 : AHeap), Kp H H2 → CVT Try.prog [(false, [.bool])] fn [(.agg [(.int .i64 p.1), (.int .i64 p.2.1), (.int .i64 p.2.2)])] H2 fun H3 b => Kp H2 H3 ∧ b = f p) :
    Fn.Z16 s fn H fun H' q => Kp H H' ∧ (0 ≤ q ↔ ∃ p ∈ l, f p = true) := by
  refine Z16.run ?_
  unfold Z16.W Z16.l6
  refine LenS.of hs ?_
  rw [nodeRows_len]
  refine LoopT.rule (fun m s0 H3 => ∃ i : Nat, i ≤ l.length ∧ m = l.length - i ∧ s0 = (s, fn, (l.length : Int), (i : Int), ()) ∧ Kp H H3 ∧ ∀ j p, j < i → l[j]? = some p → f p = false) l.length ⟨0, by omega, by omega, rfl, Kp.refl _, fun j p h => by omega⟩ ?_
  rintro m s0 H3 back ⟨i, hi, rfl, rfl, k3, hall⟩ hback
  simp only [Z16.b6]
  refine CondB.dec (fun hlt => ?_) fun hge => ?_
  · have hi' : i < l.length := by omega
    obtain ⟨p, hp⟩ : ∃ b, l[i]? = some b := ⟨_, List.getElem?_eq_getElem hi'⟩
    refine IA.of (hs.kp k3) (by omega) (by rw [Int.toNat_natCast]; exact nodeRow_at hp) fun b1 o1 hld => Ld.a3 hld p.1 p.2.1 p.2.2 rfl rfl ?_
    refine CVT.imp ?_ (hf p H3 k3)
    rintro H4 b ⟨k4, rfl⟩
    refine CondB.mk (fun hc => ⟨k3.trans k4, ?_⟩) fun hc => ?_
    · exact ⟨fun _ => ⟨p, List.mem_of_getElem? hp, hc⟩, fun _ => by show (0 : Int) ≤ (i : Int); omega⟩
    · refine hback (l.length - (i + 1)) _ _ (by omega) ⟨i + 1, by omega, rfl, ?_, k3.trans k4, fun j q hj hq => ?_⟩
      · exact tc rfl (tc rfl (tc rfl (tc ((wrap64 (by omega) (by omega)).trans (by omega)) rfl)))
      · by_cases hji : j = i
        · subst hji
          rw [hp] at hq
          cases hq
          exact hc
        · exact hall j q (by omega) hq
  · refine ⟨k3, fun h => by exfalso; have h' : (0 : Int) ≤ -1 := h; omega, fun ⟨p, hp, he⟩ => ?_⟩
    obtain ⟨j, hj, e⟩ := List.getElem_of_mem hp
    have := hall j p (by omega) (by rw [List.getElem?_eq_getElem hj, e])
    rw [this] at he; cases he
open Classical in
noncomputable def vFault (l : List NRow) (r n : Int) : Int := if dFault l r ≠ 0 then dFault l r else if n < 0 ∨ 16 < n ∨ ∃ p ∈ l, n ≤ p.1 then 1 else 0
theorem dFault_len {l : List NRow} {r : Int} (h : dFault l r = 0) : l.length ≤ 2000 ∧ CanonD l r := by
  unfold dFault at h
  split at h
  · cases h
  split at h
  · next h1 => exact absurd h h1
  split at h
  · next h1 => exact ⟨by omega, h1⟩
  · cases h
theorem varsFault_c {s : AC} {l : List NRow} {r n : Int} {H : AHeap} (hs : SlR H s 3 (nodeRows l)) :
    Fn.Z49 s r n H fun H' q => q = vFault l r n ∧ Kp H H' := by
  refine Z49.run ?_
  unfold Z49.W
  refine New.own fun b1 H1 hb1 hs1 o1 k1 => New.own fun b3 H3 hb3 hs3 o3 k3 => Ld.o2 (o1.kp k3) s r rfl ?_
  have kk := k1.trans k3
  refine RunT.imp ?_ (CheckDiagram_c (hs.kp kk))
  rintro H4 q ⟨rfl, k4⟩
  have kk4 := kk.trans k4
  have o34 := o3.kp k4
  refine CondB.mk (fun hne => ⟨?_, kk4⟩) fun he => ?_
  · unfold vFault; rw [if_pos (by simpa using hne)]
  have h0 : dFault l r = 0 := by simpa using he
  have hv : vFault l r n = if n < 0 ∨ 16 < n ∨ ∃ p ∈ l, n ≤ p.1 then 1 else 0 := by unfold vFault; rw [if_neg (by omega)]
  rw [hv]
  unfold Z49.p15
  refine Ld.oi o34 rfl (CondB.dec (fun h1 => CondB.pos rfl ⟨?_, kk4⟩) fun h1 => Ld.oi o34 rfl (CondB.dec (fun h2 => CondB.pos rfl ⟨?_, kk4⟩) fun h2 => ?_))
  · rw [if_pos (.inl h1)]
  · rw [if_pos (.inr (.inl (by omega)))]
  refine FA.mk (Ld.oc ((o1.kp k3).kp k4) rfl (Fnc.mk rfl rfl ?_))
  refine Z13.run ?_
  unfold Z13.W
  refine RunT.imp ?_ (IndexFunc_c (f := fun p => decide (p.1 ≥ n)) (hs.kp kk4) (by have := (dFault_len h0).1; omega) fun p H2 k2 => CVT.mk lt86 ?_)
  · rintro H5 (q : Int) ⟨k5, hq⟩
    refine CondB.mk (fun h3 => ⟨?_, kk4.trans k5⟩) fun h3 => ⟨?_, kk4.trans k5⟩
    · obtain ⟨p, hp, he⟩ := hq.1 (@of_decide_eq_true _ _ h3)
      rw [if_pos (.inr (.inr ⟨p, hp, by simpa using he⟩))]
    · rw [if_neg]
      rintro (h | h | ⟨p, hp, he⟩)
      · exact h1 h
      · omega
      · exact @of_decide_eq_false _ _ h3 (hq.2 ⟨p, hp, by simpa using he⟩)
  · refine Z50.run ?_
    unfold Z50.W
    refine New.own fun nb H6 hnb hs6 on k6 => FA.mk (Ld.oi on rfl (Ld.oi ((o34.kp k2).kp k6) rfl ⟨k6, rfl⟩))
theorem pow2_lt {k : Nat} (h : k ≤ 16) : 2 ^ k ≤ 65536 := Nat.pow_le_pow_right (n := 2) (by omega) h
theorem Count1_c {st : List DT} {t : DT} {v n i b1 b3 pb cb : Nat} {s : AC} {r : Int} {cs : List AC} {H : AHeap} (ht : In st t) (hro : t.RO) (hvl : VarsLt n t) (hn : n ≤ 16) (hv : v ≤ n) (hvt : v ≤ t.top)
    (o3 : Own H b3 [.int .i64 (n : Int)]) (op : Own H pb [.sl (some (cb, 0)) 1 st.length (some st.length)]) (oc : Own H cb cs) (hcl : cs.length = st.length) (o1 : Own H b1 [s, .int .i64 r]) (hs : SlR H s 3 (nodeRows (st.map (row st))))
    (hmade : ∀ j t', j < i → st[j]? = some t' → cs[j]? = some (.int .i64 (cnt n t'.top t' : Int))) (hti : ref st t < i) :
    Fn.Z25 (ref st t) (v : Int) (.ptr (some (b3, 0))) (.ptr (some (pb, 0))) (.ptr (some (b1, 0))) H fun H' q => H' = H ∧ q = (cnt n v t : Int) := by
  refine Z25.run ?_
  unfold Z25.W
  have hle := cnt_le n t v hro hvl hv hvt
  have hp16 : 2 ^ (n - v) ≤ 65536 := pow2_lt (by omega)
  cases t with
  | leaf b =>
    cases b with
    | false => exact CondB.pos rfl ⟨rfl, rfl⟩
    | true =>
      refine CondB.neg rfl (CondB.pos rfl (Ld.oi o3 rfl ?_))
      have e : IntKind.wrap .i64 ((n : Int) - (v : Int)) = ((n - v : Nat) : Int) := (wrap64 (by omega) (by omega)).trans (by omega)
      rw [e]
      refine ⟨by omega, rfl, ?_⟩
      have := shl_nat (x := 1) (v := n - v) (by omega) (by rw [Nat.shiftLeft_eq, Nat.one_mul]; omega)
      rw [Nat.shiftLeft_eq, Nat.one_mul] at this
      exact this
  | nd w l h =>
    have h0 : 0 ≤ ref st (nd w l h) := by rw [ref_ge]; omega
    refine CondB.neg ?_ (CondB.neg ?_ (Ld.oc op rfl ?_))
    · simp only [beq_eq_false_iff_ne, ne_eq]; omega
    · simp only [beq_eq_false_iff_ne, ne_eq]; omega
    have hg := ref_get ht h0
    have hlt := (List.getElem?_eq_some_iff.1 hg).1
    have hc := hmade _ _ (by omega) hg
    refine IA.mk h0 (by omega) (Ld.oi oc (by rw [Nat.zero_add, Nat.mul_one]; exact hc) ?_)
    refine FA.mk (Ld.oc o1 rfl (IA.of hs h0 (nodeRow_at (by rw [List.getElem?_map, hg]; rfl)) fun b o hld => FA.mk (Ld.ei hld rfl ?_)))
    simp only [top] at hvt
    have hw := hvl.1
    have e : IntKind.wrap .i64 ((w : Int) - (v : Int)) = ((w - v : Nat) : Int) := (wrap64 (by omega) (by omega)).trans (by omega)
    refine GE0.mk ?_ ⟨by trivial, ?_⟩
    · show 0 ≤ IntKind.wrap .i64 ((w : Int) - (v : Int))
      rw [e]; omega
    · show shl .i64 (cnt n w (nd w l h) : Int) (IntKind.wrap .i64 ((w : Int) - (v : Int))) = _
      rw [cnt_top] at hle
      have := shl_nat (x := cnt n w (nd w l h)) (v := w - v) (by omega) (by rw [Nat.shiftLeft_eq]; omega)
      rw [Nat.shiftLeft_eq] at this
      rw [e, cnt_top n v]
      exact this
theorem Count_c {s : AC} {x : DT} {n : Nat} {H : AHeap} (hx : x.RO) (hs : SlR H s 3 (nodeRows ((ser x []).map (row (ser x []))))) (hlen : (ser x []).length ≤ 2000) (hn : n ≤ 16) (hvl : VarsLt n x) :
    Fn.Z24 s (ref (ser x []) x) (n : Int) H fun H' q e => q = (cnt n 0 x : Int) ∧ e = 0 ∧ Kp H H' := by
  refine Z24.run ?_
  unfold Z24.W
  obtain ⟨st, hst⟩ : ∃ st, st = ser x [] := ⟨_, rfl⟩
  have hseq : Seq st := by rw [hst]; exact ser_seq x [] hx Seq.nil
  have hinx : In st x := by rw [hst]; exact ser_in x []
  have hvars : ∀ y ∈ st, VarsLt n y := by
    intro y hy
    rw [hst] at hy
    rcases varsLt_mem x [] hvl y hy with h | h
    · cases h
    · exact h
  have hcan : vFault (st.map (row st)) (ref st x) n = 0 := by
    have : dFault (st.map (row st)) (ref st x) = 0 := dFault_zero (by rw [List.length_map, hst]; exact hlen) ⟨x, hx, by rw [hst], by rw [hst]⟩
    unfold vFault
    rw [if_neg (by omega), if_neg]
    rintro (h | h | ⟨p, hp, h⟩)
    · omega
    · omega
    · obtain ⟨y, hy, rfl⟩ := List.mem_map.1 hp
      obtain ⟨v, a, b, rfl, _⟩ := hseq.1.parts y hy
      have := (hvars _ hy).1
      simp only [row] at h
      omega
  rw [← hst] at hs hlen ⊢
  refine New.own fun b1 H1 hb1 hs1 o1 k1 => New.own fun b3 H3 hb3 hs3 o3 k3 => Ld.o2 (o1.kp k3) s (ref st x) rfl (Ld.oi o3 rfl ?_)
  have kk := k1.trans k3
  refine RunT.imp ?_ (varsFault_c (hs.kp kk))
  rintro H4 q ⟨rfl, k4⟩
  have kk4 := kk.trans k4
  rw [hcan]
  refine CondB.neg rfl (FA.mk (Ld.oc ((o1.kp k3).kp k4) rfl (LenS.of (hs.kp kk4) ?_)))
  rw [nodeRows_len, List.length_map]
  refine MkS.own (n := st.length) (by omega) (by omega) fun cb H5 hcb hs5 oc k5 => NewSto.own rfl fun pb H6 hpb hs6 op k6 => Fnc.mk rfl rfl ?_
  have kk6 := (kk4.trans k5).trans k6
  have o16 := (((o1.kp k3).kp k4).kp k5).kp k6
  have o36 := ((o3.kp k4).kp k5).kp k6
  refine FA.mk (Ld.oc o16 rfl (LenS.of (hs.kp kk6) ?_))
  rw [nodeRows_len, List.length_map]
  have hz4 := kk4.size
  have hb14 := ((o1.kp k3).kp k4).lt
  have hb34 := (o3.kp k4).lt
  unfold Z24.l20
  refine LoopT.rule (fun mm s0 H7 => ∃ (i : Nat) (cs : List AC), i ≤ st.length ∧ mm = st.length - i ∧ s0 = (.ptr (some (b1, 0)), .ptr (some (pb, 0)), .fn 58 [] [(b3, 0), (pb, 0), (b1, 0)], s, (st.length : Int), (i : Int), ()) ∧
    Kp H H7 ∧ Own H7 b1 [s, .int .i64 (ref st x)] ∧ Own H7 b3 [.int .i64 (n : Int)] ∧ Own H7 pb [.sl (some (cb, 0)) 1 st.length (some st.length)] ∧ Own H7 cb cs ∧ cs.length = st.length ∧
    ∀ j t', j < i → st[j]? = some t' → cs[j]? = some (.int .i64 (cnt n t'.top t' : Int))) st.length
    ⟨0, _, by omega, by omega, rfl, kk6, o16, o36, op, oc.kp k6, by rw [List.length_replicate], fun j t h => by omega⟩ ?_
  rintro mm s0 H7 back ⟨i, cs, hi, rfl, rfl, k7, o17, o37, op7, oc7, hcl, hmade⟩ hback
  simp only [Z24.b20]
  refine CondB.dec (fun hlt => ?_) fun hge => ?_
  · have hi' : i < st.length := by omega
    obtain ⟨t, ht⟩ : ∃ b, st[i]? = some b := ⟨_, List.getElem?_eq_getElem hi'⟩
    have htm := List.mem_of_getElem? ht
    obtain ⟨v, l, h, rfl, h1, h2, h3⟩ := hseq.1.parts t htm
    obtain ⟨i1, i2⟩ := hseq.2 i v l h ht
    obtain ⟨_, r1⟩ := in_take i i1
    obtain ⟨_, r2⟩ := in_take i i2
    have hvv := hvars _ htm
    refine IA.of (hs.kp k7) (by omega) (by rw [Int.toNat_natCast]; exact nodeRow_at (p := row st (nd v l h)) (by rw [List.getElem?_map, ht]; rfl)) fun b o hld => Ld.a3 hld (v : Int) (ref st l) (ref st h) rfl rfl ?_
    refine NewSto.own rfl fun nb H8 hnb hs8 on k8 => Ld.oc (op7.kp k8) rfl (FA.mk (Ld.oi on rfl (FA.mk (Ld.oi on rfl ?_))))
    have hv16 := hvv.1
    have ev : IntKind.wrap .i64 ((v : Int) + 1) = ((v + 1 : Nat) : Int) := (wrap64 (by omega) (by omega)).trans (by omega)
    rw [ev]
    have k78 := k7.trans k8
    have tl := h3.2.2.1
    have th := h3.2.2.2.1
    refine CVT.imp ?_ (CVT.mk lt58 (Count1_c h1 h3.2.2.2.2.1 hvv.2.1 hn (by omega) (by omega) (o37.kp k8) (op7.kp k8) (oc7.kp k8) hcl (o17.kp k8) (hs.kp k78) hmade r1))
    rintro H9 q ⟨he, rfl⟩
    obtain rfl : H8 = H9 := he.symm
    refine FA.mk (Ld.oi on rfl (FA.mk (Ld.oi on rfl ?_)))
    rw [ev]
    refine CVT.imp ?_ (CVT.mk lt58 (Count1_c h2 h3.2.2.2.2.2 hvv.2.2 hn (by omega) (by omega) (o37.kp k8) (op7.kp k8) (oc7.kp k8) hcl (o17.kp k8) (hs.kp k78) hmade r2))
    rintro H9 q ⟨he, rfl⟩
    obtain rfl : H8 = H9 := he.symm
    refine IA.mk (by omega) (by omega) ?_
    refine Sto.cell (oc7.kp k8) (by rw [hcl]; omega) fun H10 oc10 k10 hs10 => ?_
    refine ⟨Same1.mk rfl, Same1.mk rfl, Same2.mk rfl, Same2.mk rfl, ?_⟩
    refine hback (st.length - (i + 1)) _ _ (by omega) ⟨i + 1, _, by omega, rfl, ?_, k78.fresh k10 fun y e => ?_, (o17.kp k8).keep k10 (by omega), (o37.kp k8).keep k10 (by omega), (op7.kp k8).keep k10 (by omega), oc10, by rw [List.length_set, hcl], fun j t' hj ht' => ?_⟩
    · exact tc rfl (tc rfl (tc rfl (tc rfl (tc rfl (tc ((wrap64 (by omega) (by omega)).trans (by omega)) rfl)))))
    · have e' : y = cb := e; omega
    · simp only [Int.toNat_natCast, Nat.mul_one, Nat.zero_add]
      by_cases hji : j = i
      · subst hji
        rw [ht] at ht'
        cases ht'
        rw [List.getElem?_set_self (by omega)]
        have c1 := cnt_le n l (v + 1) h3.2.2.2.2.1 hvv.2.1 (by omega) (by omega)
        have c2 := cnt_le n h (v + 1) h3.2.2.2.2.2 hvv.2.2 (by omega) (by omega)
        have c3 : 2 ^ (n - (v + 1)) ≤ 65536 := pow2_lt (by omega)
        have e : IntKind.wrap .i64 ((cnt n (v + 1) l : Int) + (cnt n (v + 1) h : Int)) = (cnt n v (nd v l h) : Int) := by
          refine (wrap64 (by omega) (by omega)).trans ?_
          simp only [cnt, Nat.sub_self, Nat.pow_zero, Nat.mul_one]
          omega
        rw [e]
        rfl
      · rw [List.getElem?_set_ne (by omega)]
        exact hmade j t' (by omega) ht'
  · have hil : i = st.length := by omega
    have hmade' := hmade
    refine FA.mk (Ld.oi o17 rfl ?_)
    refine CVT.imp ?_ (CVT.mk lt58 (Count1_c (v := 0) hinx hx hvl hn (by omega) (by omega) o37 op7 oc7 hcl o17 (hs.kp k7) hmade (by have := (ref_lt hinx).2; omega)))
    rintro H9 q ⟨he, rfl⟩
    obtain rfl : H7 = H9 := he.symm
    exact ⟨by trivial, by trivial, k7⟩
end Go.Proofs.Ytanaaabejeeakaa
end
section
namespace Go.Proofs.Ytanaaabejeeakaa
open Go.AI Go.AI.DT
abbrev rowsOf (x : DT) : List NRow := (ser x []).map (row (ser x []))
def smallF : Fm := .mk 4 0 [.mk 1 0 [], .mk 1 2 []]
def smallT : DT := nd 0 (leaf false) (nd 2 (leaf false) (leaf true))
theorem smallT_ro : smallT.RO := ⟨by omega, by simp, by simp [top], by simp [top], trivial, by omega, by simp, by simp [top], by simp [top], trivial, trivial⟩
theorem small_eval (ρ : Nat → Bool) : smallT.eval ρ = smallF.val ρ := by
  simp only [smallT, smallF, eval, Fm.val, Fm.vals]
  cases h0 : ρ 0 <;> cases h2 : ρ 2 <;> simp [h0, h2]
theorem small_fault : boolFaultOf smallF = 0 := by
  simp [boolFaultOf, smallF, Fm.size, Fm.sizes, Fm.fault, Fm.faults, Fm.want, Fm.most]
theorem small_rows : rowsOf smallT = [(2, -1, -2), (0, -1, 0)] ∧ ref (ser smallT []) smallT = 1 ∧ cnt 3 0 smallT = 2 := by
  refine ⟨?_, ?_, ?_⟩ <;> decide
theorem BRes.tree {H0 H : AHeap} {f : Fm} {ns : AC} {root err : Int} {t : DT} (h : BRes H0 H f ns root err) (h0 : boolFaultOf f = 0) (hr : t.RO) (he : ∀ ρ, t.eval ρ = f.val ρ) : DRes H t ns root err := by
  rcases h with ⟨h1, _⟩ | ⟨_, x, hx, hev, hd⟩
  · exact absurd h0 h1
  · have : x = t := canon' hx hr fun ρ => (hev ρ).trans (he ρ).symm
    subst this
    exact hd.res
theorem built_c {H : AHeap} : Fn.Z1 H fun H' q => q = true ∧ Kp H H' := by
  refine Z1.run ?_
  unfold Z1.W
  refine NewSto.own rfl fun b1 H1 hb1 hs1 o1 k1 => NewSto.own rfl fun b2 H2 hb2 hs2 o2 k2 => ?_
  refine Ld.o3 (o1.kp k2) (1 : Int) (0 : Int) (.sl none 0 0 (some 0)) rfl (Ld.o3 o2 (1 : Int) (2 : Int) (.sl none 0 0 (some 0)) rfl ?_)
  refine NewS.own fun b3 H3 hb3 hs3 o3 k3 => ?_
  have kk := (k1.trans k2).trans k3
  have hf : FmB H3.size H3 4 0 (.sl (some (b3, 0)) 3 2 (some 2)) smallF := by
    have leafF : ∀ v : Int, FmB H3.size H3 1 v (.sl none 0 0 (some 0)) (.mk 1 v []) := fun v =>
      .mk [] rfl (SlR.nil _ _) (fun b o z m cap e => by cases e) fun i r k h => by simp at h
    refine .mk [(1, 0, .sl none 0 0 (some 0)), (1, 2, .sl none 0 0 (some 0))] rfl ?_ (fun b o z m cap e => ?_) ?_
    · refine ⟨some (b3, 0), 3, some 2, rfl, fun i r hr => ⟨rfl, b3, 0, rfl, ?_⟩⟩
      match i with
      | 0 => simp at hr; subst hr; exact o3.load (o := 0) (n := 3) (by simp)
      | 1 => simp at hr; subst hr; exact o3.load (o := 3) (n := 3) (by simp)
      | i + 2 => simp at hr
    · cases e; have := o3.lt; omega
    · intro i r k hr hk
      match i with
      | 0 => simp at hr hk; subst hr hk; exact leafF 0
      | 1 => simp at hr hk; subst hr hk; exact leafF 2
      | i + 2 => simp at hr
  refine RunT.imp ?_ (Build_c (f := smallF) (by simp [smallF, Fm.size, Fm.sizes]) hf)
  rintro H4 ns root err ⟨hres, k4⟩
  have hd := hres.tree small_fault smallT_ro small_eval
  obtain ⟨r1, r2, r3⟩ := small_rows
  have hl : (ser smallT []).length = 2 := by decide
  rcases hd with ⟨hbig, _⟩ | ⟨_, rfl, rfl, hsl⟩
  · omega
  have hsl' : SlR H4 ns 3 (nodeRows [(2, -1, -2), (0, -1, 0)]) := by rw [← r1]; exact hsl
  refine NewSto.own rfl fun b5 H5 hb5 hs5 o5 k5 => CondB.neg rfl (FA.mk (Ld.oi o5 rfl ?_))
  have kk5 := (kk.trans k4).trans k5
  refine CondB.neg (by rw [r2]; rfl) (FA.mk (Ld.oc o5 rfl (LenS.of (hsl'.kp k5) ?_)))
  unfold Z1.p11
  refine CondB.neg rfl (Ld.o2 o5 ns (ref (ser smallT []) smallT) rfl ?_)
  refine RunT.imp ?_ (Count_c (n := 3) smallT_ro (hsl.kp k5) (by omega) (by omega) ⟨by omega, trivial, by omega, trivial, trivial⟩)
  rintro H6 q e ⟨rfl, rfl, k6⟩
  rw [r3]
  have hsl6 := (hsl'.kp k5).kp k6
  refine FA.mk (Ld.oc (o5.kp k6) rfl (IA.of hsl6 (by omega) (r := nodeCells (2, -1, -2)) rfl fun b o hld => Ld.a3 hld (2 : Int) (-1 : Int) (-2 : Int) rfl rfl (CondB.pos rfl ?_)))
  refine FA.mk (Ld.oc (o5.kp k6) rfl (IA.of hsl6 (by omega) (r := nodeCells (0, -1, 0)) rfl fun b o hld => Ld.a3 hld (0 : Int) (-1 : Int) (0 : Int) rfl rfl (CondB.pos rfl (CondB.pos rfl ⟨rfl, kk5.trans k6⟩))))
theorem entry_bit (ρ : Nat → Bool) : ∀ (k j : Nat), j < k → (entry ρ k).testBit j = ρ (15 - j)
  | k + 1, j, hj => by
    have hlt := entry_lt ρ k
    simp only [entry]
    by_cases hjk : j = k
    · subst hjk
      cases ρ (15 - j) with
      | true => simp only [if_true]; rw [Nat.testBit_two_pow_add_eq, Nat.testBit_lt_two_pow hlt]; rfl
      | false => simp only [Bool.false_eq_true, if_false, Nat.zero_add]; exact Nat.testBit_lt_two_pow hlt
    · have ih := entry_bit ρ k j (by omega)
      cases ρ (15 - k) with
      | true => simp only [if_true]; rw [Nat.testBit_two_pow_add_gt (by omega)]; exact ih
      | false => simp only [Bool.false_eq_true, if_false, Nat.zero_add]; exact ih
theorem _root_.Go.AI.FmB.wide {n n' : Nat} {H : AHeap} (hn : n ≤ n') {op var : Int} {s : AC} {f : Fm} (h : FmB n H op var s f) : FmB n' H op var s f := by
  induction h with
  | mk rows hl hs hb _ ih => exact .mk rows hl hs (fun b o z m cap e => Nat.lt_of_lt_of_le (hb b o z m cap e) hn) ih
def tabOf (g : (Nat → Bool) → Bool) : List Bool := (List.range 65536).map fun i => g (rho i)
theorem tabOf_len (g : (Nat → Bool) → Bool) : (tabOf g).length = 2 ^ 16 := by rw [tabOf, List.length_map, List.length_range]
theorem tabOf_get (g : (Nat → Bool) → Bool) (i : Nat) (hi : i < 65536) : (tabOf g)[i]? = some (g (rho i)) := by
  unfold tabOf
  rw [List.getElem?_map, List.getElem?_range hi]
  rfl
theorem tab_val {g : (Nat → Bool) → Bool} (hg : ∀ ρ ρ' : Nat → Bool, (∀ v, v < 16 → ρ v = ρ' v) → g ρ = g ρ') (ρ : Nat → Bool) : (tabOf g)[entry ρ 16]?.getD false = g ρ := by
  rw [tabOf_get g _ (entry_lt ρ 16), Option.getD_some]
  refine hg _ _ fun v hv => ?_
  unfold rho
  rw [entry_bit ρ 16 (15 - v) (by omega)]
  congr 1
  omega
theorem tree_of {k : Nat} {t : List Bool} (hk : k ≤ 16) (ht : t.length = 2 ^ k) {g : (Nat → Bool) → Bool} (hg : ∀ ρ, t[entry ρ k]?.getD false = g ρ) : (tree k t).RO ∧ ∀ ρ, (tree k t).eval ρ = g ρ := by
  have hok := tree_ok k t hk ht
  exact ⟨hok.1, fun ρ => (hok.2.2 ρ).trans (hg ρ)⟩
theorem tabOf_tree {g : (Nat → Bool) → Bool} (hg : ∀ ρ ρ' : Nat → Bool, (∀ v, v < 16 → ρ v = ρ' v) → g ρ = g ρ') : (tree 16 (tabOf g)).RO ∧ ∀ ρ, (tree 16 (tabOf g)).eval ρ = g ρ :=
  tree_of (Nat.le_refl _) (tabOf_len g) (tab_val hg)
theorem DRes.same {H : AHeap} {x : DT} {ns ns' : AC} {r r' e e' : Int} (h : DRes H x ns r e) (h' : DRes H x ns' r' e') : e = e' ∧ r = r' ∧ ∃ l : List NRow, l.length ≤ 2000 ∧ SlR H ns 3 (nodeRows l) ∧ SlR H ns' 3 (nodeRows l) := by
  rcases h with ⟨a, rfl, rfl, d⟩ | ⟨a, rfl, rfl, d⟩ <;> rcases h' with ⟨a', rfl, rfl, d'⟩ | ⟨a', rfl, rfl, d'⟩
  · exact ⟨rfl, rfl, [], by simp, d, d'⟩
  · omega
  · omega
  · exact ⟨rfl, rfl, _, by rw [List.length_map]; exact a, d, d'⟩
end Go.Proofs.Ytanaaabejeeakaa
end
section
namespace Go.Proofs.Ytanaaabejeeakaa
open Go.AI
theorem good_int {D : Type} {P : Program} {H : AHeap} {n : Nat} {t : TypeId} {k : IntKind} {cs : List AC} {d : DataW D} (hu : P.underlying t = some (.int k)) (h : AI.Good P H n t cs d) : ∃ i, cs = [.int k i] ∧ d = .lit (.int k i) ∧ (Lit.int k i).wf = true := by
  cases n with
  | zero => exact h.elim
  | succ n => simp only [AI.Good, goodStep, hu] at h; exact h
theorem good_struct {D : Type} {P : Program} {H : AHeap} {n : Nat} {t : TypeId} {fs : Array Field} {cs : List AC} {d : DataW D} (hu : P.underlying t = some (.struct fs)) (h : AI.Good P H n t cs d) : ∃ m ds, n = m + 1 ∧ d = .agg ds ∧ goodF P (AI.Good P H m) fs.toList cs ds := by
  cases n with
  | zero => exact h.elim
  | succ n => simp only [AI.Good, goodStep, hu] at h; obtain ⟨ds, h1, h2⟩ := h; exact ⟨n, ds, rfl, h1, h2⟩
theorem good_slice {D : Type} {P : Program} {H : AHeap} {n : Nat} {t e : TypeId} {cs : List AC} {d : DataW D} (hu : P.underlying t = some (.slice e)) (h : AI.Good P H n t cs d) :
    (cs = [.sl none 0 0 (some 0)] ∧ d = .nil) ∨ ∃ m b ds rest cells, n = m + 1 ∧ cs = [.sl (some (b, 0)) (P.cellsOf e) ds.length none] ∧ d = .slice ds rest ∧ H.get b = some (.row e b 0 true (cells.map some)) ∧
        goodL (AI.Good P H m) e (P.cellsOf e) cells ds ∧ ds.length ≤ maxLen := by
  cases n with
  | zero => exact h.elim
  | succ n =>
    simp only [AI.Good, goodStep, hu] at h
    rcases h with h | ⟨b, ds, rest, cells, h1, h2, h3, h4, h5, _⟩
    · exact .inl h
    · exact .inr ⟨n, b, ds, rest, cells, rfl, h1, h2, h3, h4, h5⟩
theorem goodF_cons {D : Type} {P : Program} {good : TypeId → List AC → DataW D → Prop} {f : Field} {fs : List Field} {cs : List AC} {ds : List (DataW D)} (h : goodF P good (f :: fs) cs ds) :
    ∃ d ds' a b, ds = d :: ds' ∧ cs = a ++ b ∧ good f.type a d ∧ goodF P good fs b ds' := by
  cases ds with
  | nil => exact h.elim
  | cons d ds' => exact ⟨d, ds', cs.take (P.cellsOf f.type), cs.drop (P.cellsOf f.type), rfl, (List.take_append_drop ..).symm, h.1, h.2⟩
theorem goodF_nil {D : Type} {P : Program} {good : TypeId → List AC → DataW D → Prop} {cs : List AC} {ds : List (DataW D)} (h : goodF P good [] cs ds) : ds = [] ∧ cs = [] := by
  cases ds with
  | nil => exact ⟨rfl, h⟩
  | cons d ds' => exact h.elim
theorem cells77 : Try.prog.cellsOf 77 = 3 := by decide +kernel
end Go.Proofs.Ytanaaabejeeakaa
end
section
namespace Go.Proofs.Ytanaaabejeeakaa
open Go.ChangeShapes Go.WideShapes Go.ChangeAt Go.RowKit
set_option linter.unusedVariables false
section
variable {H : Type} {enc : TypeId × Value → H} {P : Program}
theorem post_of_below {f : Func} {s : ChangeSpec} {apart fresh handsOn again : Bool} {W W' : World} {args : Array Value} {v : Value} {ds gs : List (DataW H)} {before pa pv : List MemPlace}
    (hW : DataW.Whole enc P f.params.toList s.vars apart W args.toList ds gs before)
    (hres : ∀ (b : Nat) (sp : Nat → Bool) (hd : Bool), DataW.TrodAll enc P W' b sp hd f.resultTypes.toList (v.resultList f.resultTypes.size) (s.fn H (ds ++ gs)).results [])
    (hargs : ∀ sp : Nat → Bool, (∀ p ∈ before, sp p.block = true) → DataW.TrodAll enc P W' 0 sp true f.params.toList args.toList (s.fn H (ds ++ gs)).args pa)
    (hvars : ∀ sp : Nat → Bool, (∀ p ∈ before, sp p.block = true) → DataW.TrodVars enc P W' sp s.vars (s.fn H (ds ++ gs)).vars pv)
    (hps : before = pa ++ pv) (hb : Below W.heap.size W W')
    (hok : ∀ (j : Nat) (t : TypeId) (r : Value), f.resultTypes[j]? = some t → (v.resultList f.resultTypes.size)[j]? = some r → Value.okWide P W' .any 0 t r) :
    s.post enc P f apart fresh handsOn again W args v W' := by
  have hlt : ∀ p ∈ before, p.block < W.heap.size := fun p hp => hW.lt p hp
  have hold : ∀ p ∈ before, (fun b => decide (b < W.heap.size)) p.block = true := fun p hp => by simpa using hlt p hp
  refine ⟨ds, gs, before, [], pa, pv, hW, hres _ _ _, hargs _ hold, hvars _ hold, World.keptBut_mono (fun p hp => ⟨hp, ?_⟩) (hb.frame (· ∈ before)), fun _ => ?_⟩
  · rw [hps, List.mem_append] at hp
    exact Or.inr hp
  · obtain ⟨_, _, _, _, _, hz, hn⟩ := hW
    refine ⟨hok, _, _, ([] ++ pa) ++ pv, ⟨[] ++ pa, pv, trodAll_append (hargs _ (fun _ _ => rfl)) (hres _ _ _), hvars _ (fun _ _ => rfl), rfl, ?_, ?_⟩, ?_⟩
    · intro b off hp
      have hin : MemPlace.cell b off ∈ before := by rw [hps]; simpa using hp
      rw [hb.frozen (hlt _ hin)]
      exact hz b off hin
    · intro ha
      have := hn ha
      rw [hps] at this
      simpa using this
    · intro p hp _
      rw [hps]
      simpa using hp
end
theorem own : ownKnob Try.prog.godebug = none := by kernel_rfl
theorem names_ok : AI.NamesOk Try.prog := by
  have h : Try.prog.funcs.toList.all (fun fn => !(fn.name == "runtime.NumGoroutine")) = true := by decide +kernel
  intro f fn hf
  have hm : fn ∈ Try.prog.funcs.toList := by
    rw [Array.mem_toList_iff]
    exact Array.mem_of_getElem? hf
  have := List.all_eq_true.1 h fn hm
  simpa using this
theorem mixed : Try.prog.follows .mixedOrders = true := by kernel_rfl
theorem laid_out : laidOutB Try.prog = true := by kernel_rfl
end Go.Proofs.Ytanaaabejeeakaa
namespace Go.Proofs.Ytanaaabejeeakaa
open Go.AI
theorem gargs_cons {D : Type} {P : Program} {H : AHeap} {t : TypeId} {ts : List TypeId} {avs : List AV} {d : DataW D} {ds : List (DataW D)} (h : GoodArgs P H (t :: ts) avs (d :: ds)) :
    ∃ a rest n cs, avs = a :: rest ∧ AI.Good P H n t cs d ∧ a = avOf P t cs ∧ GoodArgs P H ts rest ds := by
  cases avs with
  | nil => exact h.elim
  | cons a rest =>
    obtain ⟨⟨n, cs, h1, h2⟩, h3⟩ := h
    exact ⟨a, rest, n, cs, rfl, h1, h2, h3⟩
theorem gargs_nil {D : Type} {P : Program} {H : AHeap} {avs : List AV} (h : GoodArgs (D := D) P H [] avs []) : avs = [] := by
  cases avs with
  | nil => rfl
  | cons a rest => exact h.elim
theorem dg_list {D : Type} {H : AHeap} {n : Nat} : ∀ (ds : List (DataW D)) (cells : List AC), goodL (AI.Good Try.prog H n) 77 3 cells ds → ∃ l : List NRow, l.length = ds.length ∧ cells = (nodeRows l).flatten
  | [], cells, h => ⟨[], rfl, h⟩
  | d :: ds, cells, h => by
    obtain ⟨h1, h2⟩ := h
    obtain ⟨m, ds', rfl, rfl, hF⟩ := good_struct Try.underlying77 h1
    obtain ⟨d1, ds1, a1, b1, rfl, e1, g1, hF⟩ := goodF_cons hF
    obtain ⟨d2, ds2, a2, b2, rfl, rfl, g2, hF⟩ := goodF_cons hF
    obtain ⟨d3, ds3, a3, b3, rfl, rfl, g3, hF⟩ := goodF_cons hF
    obtain ⟨rfl, rfl⟩ := goodF_nil hF
    obtain ⟨x, rfl, _⟩ := good_int Try.underlying3 g1
    obtain ⟨y, rfl, _⟩ := good_int Try.underlying3 g2
    obtain ⟨z, rfl, _⟩ := good_int Try.underlying3 g3
    obtain ⟨l, e2, e3⟩ := dg_list ds _ h2
    refine ⟨(x, y, z) :: l, by simp [e2], ?_⟩
    show cells = [.int .i64 x, .int .i64 y, .int .i64 z] ++ (nodeRows l).flatten
    rw [← e3]
    have : cells.take 3 = [.int .i64 x, .int .i64 y, .int .i64 z] := by rw [e1]; rfl
    rw [← this, List.take_append_drop]
theorem good_dg {D : Type} {H : AHeap} (n : Nat) (cs : List AC) (d : DataW D) (h : AI.Good Try.prog H n 27 cs d) : ∃ s r l, cs = [s, .int .i64 r] ∧ SlR H s 3 (nodeRows l) := by
  obtain ⟨m, ds, rfl, rfl, hF⟩ := good_struct Try.underlying27 h
  obtain ⟨d1, ds1, a1, b1, rfl, rfl, g1, hF⟩ := goodF_cons hF
  obtain ⟨d2, ds2, a2, b2, rfl, rfl, g2, hF⟩ := goodF_cons hF
  obtain ⟨rfl, rfl⟩ := goodF_nil hF
  obtain ⟨r, rfl, _⟩ := good_int Try.underlying3 g2
  rcases good_slice Try.underlying25 g1 with ⟨rfl, rfl⟩ | ⟨k, b, ds, rest, cells, rfl, rfl, rfl, hg, hl, _⟩
  · exact ⟨_, r, [], rfl, SlR.nil _ _⟩
  · rw [cells77] at hl ⊢
    obtain ⟨l, e1, rfl⟩ := dg_list ds cells hl
    refine ⟨_, r, l, rfl, some (b, 0), 3, none, by rw [nodeRows_len, e1], fun i r hr => ⟨rfl, b, 0, rfl, ?_⟩⟩
    have hlt := (List.getElem?_eq_some_iff.1 hr).1
    have hall : ∀ r ∈ nodeRows l, r.length = 3 := by
      intro r hr
      obtain ⟨x, _, rfl⟩ := List.mem_map.1 hr
      rfl
    have hfl := flatten_len hall
    have hm : (i + 1) * 3 ≤ (nodeRows l).length * 3 := Nat.mul_le_mul_right _ (by omega)
    rw [Nat.zero_add, load_of hg (by omega), flatten_row hall hr]
end Go.Proofs.Ytanaaabejeeakaa
end
section
namespace Go.Proofs.Ytanaaabejeeakaa
open Go.AI Go.AI.DT
def ERes (H0 H : AHeap) (bad : Int) (g : (Nat → Bool) → Bool) (ns : AC) (root err : Int) : Prop :=
  (bad ≠ 0 ∧ err = bad ∧ root = 0 ∧ SlR H ns 3 []) ∨ (bad = 0 ∧ ∃ x : DT, x.RO ∧ (∀ ρ, x.eval ρ = g ρ) ∧ DResN H0 H x ns root err)
theorem emp {H H' : AHeap} {s : AC} {sz : Nat} (h : SlR H s sz []) : SlR H' s sz [] := by
  obtain ⟨a, z, cap, e, _⟩ := h.ex
  exact ⟨a, z, cap, e, fun i r hr => by simp at hr⟩
theorem ERes.keep {S : Nat → Prop} {H0 H H' : AHeap} {bad : Int} {g : (Nat → Bool) → Bool} {ns : AC} {root err : Int} (h : ERes H0 H bad g ns root err) (k : Keep S H H') (hS : ∀ y, S y → y < H0.size) : ERes H0 H' bad g ns root err := by
  rcases h with ⟨a, b, c, d⟩ | ⟨a, x, b, c, d⟩
  · exact .inl ⟨a, b, c, emp d⟩
  · exact .inr ⟨a, x, b, c, d.keep k hS⟩
theorem ERes.kp {H0 H H' : AHeap} {bad : Int} {g : (Nat → Bool) → Bool} {ns : AC} {root err : Int} (h : ERes H0 H bad g ns root err) (k : Kp H H') : ERes H0 H' bad g ns root err := h.keep k fun _ h => h.elim
theorem ERes.from {H0 H1 H : AHeap} {bad : Int} {g : (Nat → Bool) → Bool} {ns : AC} {root err : Int} (h : ERes H1 H bad g ns root err) (hs : H0.size ≤ H1.size) : ERes H0 H bad g ns root err := by
  rcases h with ⟨a, b, c, d⟩ | ⟨a, x, b, c, d⟩
  · exact .inl ⟨a, b, c, d⟩
  · exact .inr ⟨a, x, b, c, d.from hs⟩
theorem ERes.same {H0 H0' H : AHeap} {bad : Int} {g g' : (Nat → Bool) → Bool} {ns ns' : AC} {r r' e e' : Int} (h : ERes H0 H bad g ns r e) (h' : ERes H0' H bad g' ns' r' e') (hg : bad = 0 → ∀ ρ, g ρ = g' ρ) : e = e' ∧ r = r' ∧ ∃ l : List NRow, l.length ≤ 2000 ∧ SlR H ns 3 (nodeRows l) ∧ SlR H ns' 3 (nodeRows l) := by
  rcases h with ⟨a, rfl, rfl, d⟩ | ⟨a, x, b, c, d⟩ <;> rcases h' with ⟨a', rfl, rfl, d'⟩ | ⟨a', x', b', c', d'⟩
  · exact ⟨rfl, rfl, [], by simp, d, d'⟩
  · exact absurd a' a
  · exact absurd a a'
  · have : x = x' := canon' b b' fun ρ => (c ρ).trans ((hg a ρ).trans (c' ρ).symm)
    subst this
    exact d.res.same d'.res
def dVal (l : List NRow) (r : Int) (ρ : Nat → Bool) : Bool := (atR (bld l) r).eval ρ
end Go.Proofs.Ytanaaabejeeakaa
end
section
namespace Go.Proofs.Ytanaaabejeeakaa
open Go.AI Go.AI.DT
theorem ERes.diag {H0 H : AHeap} {bad : Int} {g : (Nat → Bool) → Bool} {ns : AC} {root err : Int} (h : ERes H0 H bad g ns root err) (he : err = 0) : bad = 0 ∧ ∃ l : List NRow, SlR H ns 3 (nodeRows l) ∧ dFault l root = 0 ∧ l.length ≤ 2000 ∧ ∀ ρ, dVal l root ρ = g ρ := by
  rcases h with ⟨a, b, _, _⟩ | ⟨a, x, b, c, d⟩
  · exact absurd (b.symm.trans he) a
  · rcases d.res with ⟨_, d2, _⟩ | ⟨d1, _, rfl, d4⟩
    · rw [d2] at he; cases he
    · have hcan : CanonD (rowsOf x) (ref (ser x []) x) := ⟨x, b, rfl, rfl⟩
      have hl : (rowsOf x).length ≤ 2000 := by rw [List.length_map]; exact d1
      refine ⟨a, _, d4, dFault_zero hl hcan, hl, fun ρ => ?_⟩
      unfold dVal
      rw [bld_rows (ser_seq x [] b Seq.nil), atR_ref (ser_in x [])]
      exact c ρ
theorem ERes.zero {H0 H : AHeap} {bad : Int} {g : (Nat → Bool) → Bool} {ns : AC} {root err : Int} (h : ERes H0 H bad g ns root err) (he : err = 0) : bad = 0 := (h.diag he).1
end Go.Proofs.Ytanaaabejeeakaa
end
section
namespace Go.Proofs.Ytanaaabejeeakaa
open Go.AI Go.AI.DT
theorem DiagramTable_c {s : AC} {x : DT} {H : AHeap} (hx : x.RO) (hs : SlR H s 3 (nodeRows (rowsOf x))) :
    Fn.Z3 s (ref (ser x []) x) H fun H' r => (∃ tb cap, r = .sl (some (tb, 0)) 1 65536 cap ∧ Own H' tb ((tabOf x.eval).map AC.bool) ∧ H.size ≤ tb) ∧ Kp H H' := by
  obtain ⟨st, hst⟩ : ∃ st, st = ser x [] := ⟨_, rfl⟩
  have hseq : Seq st := by rw [hst]; exact ser_seq x [] hx Seq.nil
  have hinx : In st x := by rw [hst]; exact ser_in x []
  have hs' : SlR H s 3 (nodeRows (st.map (row st))) := by rw [hst]; exact hs
  rw [← hst]
  refine Z3.run ?_
  unfold Z3.W
  obtain ⟨N, hN⟩ : ∃ N : Nat, N = 65536 := ⟨_, rfl⟩
  rw [show (65536 : Int) = (N : Int) from by omega, ← hN]
  refine New.own fun b H1 hb hs1 ho hkp => ?_
  refine MkS.own (n := N) (by omega) (by omega) fun tb H2 htb hs2 hot hkp2 => ?_
  unfold Z3.l8
  refine LoopT.rule (fun m s0 H3 => ∃ (i : Nat) (cs : List AC), i ≤ N ∧ m = N - i ∧ s0 = (.ptr (some (b, 0)), .sl (some (tb, 0)) 1 N (some N), (i : Int), ()) ∧ Kp H H3 ∧ Own H3 b [s, .int .i64 (ref st x)] ∧ Own H3 tb cs ∧ cs.length = N ∧
    ∀ j, j < i → cs[j]? = some (.bool (x.eval (rho j)))) N ⟨0, _, by omega, by omega, rfl, hkp.trans hkp2, ho.kp hkp2, hot, by rw [List.length_replicate], fun j h => by omega⟩ ?_
  rintro m s0 H3 back ⟨i, cs, hi, rfl, rfl, hkp3, ho3, hot3, hcl, hall⟩ hback
  simp only [Z3.b8]
  refine LenS.mk (CondB.dec (fun hlt => ?_) fun hge => ?_)
  · have hi' : i < 65536 := by omega
    refine FA.mk (Ld.oi ho3 rfl ?_)
    unfold Z3.l21
    refine LoopT.rule (fun m s0 H4 => ∃ t : DT, m = t.sz ∧ s0 = (.ptr (some (b, 0)), .sl (some (tb, 0)) 1 N (some N), (i : Int), ref st t, ()) ∧ H4 = H3 ∧ In st t ∧ t.eval (rho i) = x.eval (rho i)) x.sz ⟨x, rfl, rfl, rfl, hinx, rfl⟩ ?_
    rintro m s0 H4 back2 ⟨t, rfl, rfl, rfl, hin, hev⟩ hback2
    simp only [Z3.b21]
    refine CondB.dec (fun h0 => ?_) fun h0 => ?_
    · have h0' : 0 ≤ ref st t := h0
      cases t with
      | leaf c => exfalso; cases c <;> simp [ref] at h0'
      | nd v l h =>
        have hg := ref_get hin h0'
        obtain ⟨_, _, _, e0, inl, inh, hro⟩ := hseq.1.parts _ (List.mem_of_getElem? hg)
        cases e0
        have hv16 := hro.1
        have hrow : (nodeRows (st.map (row st)))[(ref st (nd v l h)).toNat]? = some (nodeCells ((v : Int), ref st l, ref st h)) := nodeRow_at (by rw [List.getElem?_map, hg]; rfl)
        refine FA.mk (Ld.oc ho3 rfl (IA.of (hs'.kp hkp3) h0' hrow fun b1 o1 hld => FA.mk (Ld.ei hld rfl ?_)))
        have e : IntKind.wrap .i64 (15 - (v : Int)) = ((15 - v : Nat) : Int) := (wrap64 (by omega) (by omega)).trans (by omega)
        refine GE0.mk ?_ ?_
        · rw [e]; omega
        rw [e, bit_nat (by omega) (by omega)]
        have hrho : rho i v = i.testBit (15 - v) := rfl
        have hsz : (nd v l h).sz = l.sz + h.sz + 1 := rfl
        refine CondB.mk (fun hc => ?_) fun hc => ?_
        · have hbit : i.testBit (15 - v) = true := by
            cases hh : i.testBit (15 - v) with
            | true => rfl
            | false => rw [hh] at hc; simp at hc
          refine FA.mk (Ld.oc ho3 rfl (IA.of (hs'.kp hkp3) h0' hrow fun b1 o1 hld => FA.mk (Ld.ei hld rfl ?_)))
          refine hback2 h.sz _ _ (by omega) ⟨h, rfl, rfl, rfl, inh, ?_⟩
          rw [← hev]
          simp only [eval]
          rw [hrho, hbit, if_pos rfl]
        · have hbit : i.testBit (15 - v) = false := by
            cases hh : i.testBit (15 - v) with
            | false => rfl
            | true => rw [hh] at hc; simp at hc
          refine FA.mk (Ld.oc ho3 rfl (IA.of (hs'.kp hkp3) h0' hrow fun b1 o1 hld => FA.mk (Ld.ei hld rfl ?_)))
          refine hback2 l.sz _ _ (by omega) ⟨l, rfl, rfl, rfl, inl, ?_⟩
          rw [← hev]
          simp only [eval]
          rw [hrho, hbit]
          simp
    · have h0' : ref st t < 0 := by have : ¬ ref st t ≥ 0 := h0; omega
      obtain ⟨c, rfl⟩ := ref_leaf.1 h0'
      refine IA.mk (by omega) (by omega) ?_
      have hb2 : b < tb := by omega
      refine Sto.cell hot3 (by rw [hcl]; omega) fun H6 hot6 hk6 hs6 => ?_
      have hbl := ho3.lt
      refine hback (N - (i + 1)) _ _ (by omega) ⟨i + 1, _, by omega, rfl, ?_, ?_, ho3.keep hk6 (by omega), hot6, by rw [List.length_set, hcl], fun j hj => ?_⟩
      · exact tc rfl (tc rfl (tc ((wrap64 (by omega) (by omega)).trans (by omega)) rfl))
      · exact hkp3.fresh hk6 fun y e => by have e' : y = tb := e; have := hkp.size; omega
      · simp only [Int.toNat_natCast, Nat.mul_one, Nat.zero_add]
        by_cases hji : j = i
        · subst hji
          rw [List.getElem?_set_self (by omega)]
          congr 2
          rw [← hev]
          cases c <;> rfl
        · rw [List.getElem?_set_ne (by omega)]
          exact hall j (by omega)
  · have : i = N := by omega
    subst this
    refine ⟨⟨tb, some i, ?_, ?_, ?_⟩, hkp3⟩
    · rfl
    · have e : cs = (tabOf x.eval).map AC.bool := by
        unfold tabOf
        rw [← hN]
        apply List.ext_getElem?
        intro j
        by_cases hj : j < i
        · rw [hall j hj, List.getElem?_map, List.getElem?_map, List.getElem?_range hj]; rfl
        · rw [List.getElem?_eq_none (by omega), List.getElem?_eq_none (by rw [List.length_map, List.length_map, List.length_range]; omega)]
      rw [← e]; exact hot3
    · have := hkp.size; omega
end Go.Proofs.Ytanaaabejeeakaa
end
section
namespace Go.AI
open DT
def OneOk (l : List NRow) (i : Nat) (p : NRow) : Prop := p.2.1 ≠ p.2.2 ∧ ∀ j q, j < i → l[j]? = some q → q ≠ p
theorem atR_in {l : List NRow} {r : Int} {i : Nat} (hi : i ≤ l.length) (h1 : -2 ≤ r) (h2 : r < i) (f : Fin (bld (l.take i))) : In (bld (l.take i)) (atR (bld (l.take i)) r) ∧ ref (bld (l.take i)) (atR (bld (l.take i)) r) = r := by
  unfold atR
  by_cases e1 : r = -1
  · subst e1; exact ⟨.inl ⟨false, rfl⟩, rfl⟩
  rw [if_neg e1]
  by_cases e2 : r = -2
  · subst e2; exact ⟨.inl ⟨true, rfl⟩, rfl⟩
  rw [if_neg e2]
  have hlt : r.toNat < (bld (l.take i)).length := by rw [bld_len, List.length_take]; omega
  rw [List.getElem?_eq_getElem hlt, Option.getD_some]
  refine ⟨.inr (List.getElem_mem _), ?_⟩
  rw [ref_idx f (List.getElem?_eq_getElem hlt)]
  omega
theorem strict_seq {l : List NRow} (h : RowsOk l) (h2 : ∀ i p, l[i]? = some p → OneOk l i p) : Seq (bld l) ∧ (bld l).map (row (bld l)) = l := by
  have key : ∀ n, n ≤ l.length → Seq (bld (l.take n)) ∧ (bld (l.take n)).map (row (bld (l.take n))) = l.take n := by
    intro n
    induction n with
    | zero => intro _; exact ⟨Seq.nil, rfl⟩
    | succ n ih =>
      intro hn
      obtain ⟨s1, s2⟩ := ih (by omega)
      have hp : l[n]? = some l[n] := List.getElem?_eq_getElem (by omega)
      obtain ⟨p, hpe⟩ : ∃ p, p = l[n] := ⟨_, rfl⟩
      rw [← hpe] at hp
      obtain ⟨hnum, hord⟩ := h n p hp
      obtain ⟨hne, hdup⟩ := h2 n p hp
      have hnum' := hnum
      unfold NumOk at hnum'
      have hlen : (bld (l.take n)).length = n := by rw [bld_len, List.length_take]; omega
      obtain ⟨in1, e1⟩ := atR_in (l := l) (i := n) (r := p.2.1) (by omega) hnum'.2.2.1 hnum'.2.2.2.1 s1.1
      obtain ⟨in2, e2⟩ := atR_in (l := l) (i := n) (r := p.2.2) (by omega) hnum'.2.2.2.2.1 hnum'.2.2.2.2.2 s1.1
      obtain ⟨x, hx, hro, _⟩ := bld_ro h _ n p (Nat.lt_succ_self _) hp
      have hb := bld_at hp hnum
      rw [hb] at hx
      simp only [Option.some.injEq] at hx
      have hpre := bld_take_pre l n
      rw [atR_mono hpre hnum'.2.2.1 (by rw [hlen]; omega), atR_mono hpre hnum'.2.2.2.2.1 (by rw [hlen]; omega)] at hx
      rw [bld_take_succ hp]
      unfold bldStep
      obtain ⟨ts, hts⟩ : ∃ ts, ts = bld (l.take n) := ⟨_, rfl⟩
      rw [← hts] at s1 s2 in1 e1 in2 e2 hx hlen ⊢
      obtain ⟨a, ha⟩ : ∃ a, a = atR ts p.2.1 := ⟨_, rfl⟩
      obtain ⟨b, hb'⟩ : ∃ b, b = atR ts p.2.2 := ⟨_, rfl⟩
      rw [← ha] at in1 e1 hx ⊢
      rw [← hb'] at in2 e2 hx ⊢
      have hab : a ≠ b := fun e => hne (by rw [← e1, ← e2, e])
      have hmk : DT.mk p.1.toNat a b = nd p.1.toNat a b := by unfold DT.mk; rw [if_neg hab]
      rw [hmk] at hx ⊢
      subst hx
      have hnin : nd p.1.toNat a b ∉ ts := by
        intro hm
        obtain ⟨j, hj, e⟩ := List.getElem_of_mem hm
        have hq : (ts.map (row ts))[j]? = some (row ts (nd p.1.toNat a b)) := by rw [List.getElem?_map, List.getElem?_eq_getElem hj, e]; rfl
        rw [s2, List.getElem?_take, if_pos (by omega)] at hq
        refine hdup j _ (by omega) hq ?_
        simp only [row, e1, e2]
        refine Prod.ext ?_ rfl
        show ((p.1.toNat : Nat) : Int) = p.1
        omega
      refine ⟨s1.snoc hnin in1 in2 hro, ?_⟩
      have hp' : ts <+: ts ++ [nd p.1.toNat a b] := List.prefix_append _ _
      rw [List.map_append, s1.1.row_mono hp', s2, List.take_add_one, hp]
      simp only [List.map_cons, List.map_nil, row, ref_mono in1 hp', ref_mono in2 hp', e1, e2, Option.toList_some]
      congr 2
      refine Prod.ext ?_ rfl
      show ((p.1.toNat : Nat) : Int) = p.1
      omega
  have := key l.length (Nat.le_refl _)
  rwa [List.take_length] at this
theorem CanonD.strict {l : List NRow} {r : Int} (h : CanonD l r) : ∀ i p, l[i]? = some p → OneOk l i p := by
  obtain ⟨x, hx, rfl, rfl⟩ := h
  have f := ser_seq x [] hx Seq.nil
  intro i p hp
  rw [List.getElem?_map, Option.map_eq_some_iff] at hp
  obtain ⟨y, hy, rfl⟩ := hp
  obtain ⟨v, a, b, rfl, h1, h2, h3⟩ := f.1.parts y (List.mem_of_getElem? hy)
  refine ⟨fun e => h3.2.1 (ref_inj h1 h2 e), fun j q hj hq e => ?_⟩
  rw [List.getElem?_map, Option.map_eq_some_iff] at hq
  obtain ⟨z, hz, rfl⟩ := hq
  obtain ⟨w, c, d, rfl, g1, g2, _⟩ := f.1.parts z (List.mem_of_getElem? hz)
  simp only [row, Prod.mk.injEq] at e
  obtain ⟨e1, e2, e3⟩ := e
  have e4 := ref_inj g1 h1 e2
  have e5 := ref_inj g2 h2 e3
  have e6 : w = v := by omega
  subst e4 e5 e6
  have := ref_idx f.1 hz
  rw [ref_idx f.1 hy] at this
  omega
theorem ser_last {v : Nat} {l h : DT} : ∃ st, ser (nd v l h) [] = st ++ [nd v l h] ∧ nd v l h ∉ st := by
  refine ⟨ser h (ser l []), ?_, ser_new (by simp)⟩
  simp only [ser]
  rw [if_neg (by simp)]
theorem CanonD.root {l : List NRow} {r : Int} (h : CanonD l r) : if l = [] then r = -1 ∨ r = -2 else r = (l.length : Int) - 1 := by
  obtain ⟨x, hx, rfl, rfl⟩ := h
  cases x with
  | leaf b => cases b <;> simp [ser, ref]
  | nd v a b =>
    obtain ⟨st, e, hn⟩ := ser_last (v := v) (l := a) (h := b)
    rw [e, if_neg (by simp), ref_new hn]
    simp
theorem ser_sub {st : List DT} (f : Fin st) : ∀ (x : DT) (acc : List DT), In st x → (∀ y ∈ acc, y ∈ st) → ∀ y ∈ ser x acc, y ∈ st
  | leaf _, acc, _, h, y, hy => h y hy
  | nd v l r, acc, hx, h, y, hy => by
    have hm : nd v l r ∈ st := hx.elim (fun ⟨b, e⟩ => by cases e) id
    obtain ⟨_, _, _, e, h1, h2, _⟩ := f.parts _ hm
    cases e
    simp only [ser] at hy
    split at hy
    · exact h y hy
    · rcases List.mem_append.1 hy with hy | hy
      · exact ser_sub f r _ h2 (ser_sub f l _ h1 h) y hy
      · simp at hy; subst hy; exact hm
theorem ser_all {st : List DT} {x : DT} (hl : (ser x []).length = st.length) (hi : ∀ (i : Nat) (y : DT), (ser x [])[i]? = some y → ref st y = i) (hsub : ∀ y ∈ ser x [], y ∈ st) : ser x [] = st := by
  apply List.ext_getElem?
  intro i
  by_cases h : i < st.length
  · have hy : (ser x [])[i]? = some (ser x [])[i] := List.getElem?_eq_getElem (by omega)
    have e := hi i _ hy
    have hm : In st (ser x [])[i] := .inr (hsub _ (List.getElem_mem _))
    have hg := ref_get hm (by omega)
    rw [e, Int.toNat_natCast] at hg
    rw [hy, hg]
  · rw [List.getElem?_eq_none (by omega), List.getElem?_eq_none (by omega)]
end Go.AI
end
section
namespace Go.Proofs.Ytanaaabejeeakaa
open Go.AI Go.AI.DT
def refRows (st acc : List DT) : List (List AC) := acc.map fun y => [AC.int .i64 (ref st y)]
theorem refRow_at {st acc : List DT} {i : Nat} {y : DT} (h : acc[i]? = some y) : (refRows st acc)[i]? = some [AC.int .i64 (ref st y)] := by
  unfold refRows; rw [List.getElem?_map, h]; rfl
theorem numbered_c {st : List DT} {s : AC} {r0 : Int} {H0 : AHeap} (hs : SlR H0 s 3 (nodeRows (st.map (row st)))) (hfin : Fin st) (hlen : st.length ≤ 2000) : ∀ (x : DT) {H : AHeap} {Fo : Nat → Prop} {a : AC} {acc : List DT}, In st x → Old H0 H → OwnS H a 1 Fo (refRows st acc) → (∀ y, Fo y → H0.size ≤ y) → (∀ y ∈ acc, y ∈ st) → Fin acc →
    Fn.Z9 s r0 (ref st x) a H fun H' q => ∃ Fo', OwnS H' q 1 Fo' (refRows st (ser x acc)) ∧ Keep Fo H H' ∧ ∀ y, Fo' y → Fo y ∨ H.size ≤ y := by
  intro x
  induction x with
  | leaf b =>
    intro H Fo a acc hx ho ha hFo hsub hfa
    refine Z9.run ?_
    unfold Z9.W
    refine New.own fun b1 H1 hb1 hs1 o1 k1 => CondB.pos ?_ ⟨Fo, ha.kp k1, k1.mono fun _ _ h => h.elim, fun y h => .inl h⟩
    rw [decide_eq_true_iff]; exact ref_leaf.2 ⟨b, rfl⟩
  | nd v l h ihl ihh =>
    intro H Fo a acc hx ho ha hFo hsub hfa
    have h0 : 0 ≤ ref st (nd v l h) := by rw [ref_ge]; omega
    have hg := ref_get hx h0
    have hxm : nd v l h ∈ st := List.mem_of_getElem? hg
    obtain ⟨inl, inh, hro⟩ : In st l ∧ In st h ∧ (nd v l h).RO := by
      obtain ⟨_, _, _, e0, a1, a2, a3⟩ := hfin.parts _ hxm
      cases e0
      exact ⟨a1, a2, a3⟩
    have hrow : (nodeRows (st.map (row st)))[(ref st (nd v l h)).toNat]? = some (nodeCells ((v : Int), ref st l, ref st h)) := nodeRow_at (by rw [List.getElem?_map, hg]; rfl)
    refine Z9.run ?_
    unfold Z9.W
    refine New.own fun b1 H1 hb1 hs1 o1 k1 => CondB.neg (by rw [decide_eq_false_iff_not]; omega) ?_
    have ho1 := ho.kp k1
    have ha1 := ha.kp k1
    have hal : acc.length ≤ 2000 := Nat.le_trans (hfa.nodup.length_le_of_subset fun y hy => hsub y hy) hlen
    have hz0 := ho.1
    unfold Z9.l14
    refine LoopT.rule (fun m s0 H2 => ∃ i : Nat, i ≤ acc.length ∧ m = acc.length - i ∧ s0 = (ref st (nd v l h), a, .ptr (some (b1, 0)), (i : Int), ()) ∧ H2 = H1 ∧ ∀ j y, j < i → acc[j]? = some y → y ≠ nd v l h) acc.length ⟨0, by omega, by omega, rfl, rfl, fun j y hj => by omega⟩ ?_
    rintro m s0 H2 back ⟨i, hi, rfl, rfl, rfl, hall⟩ hback
    simp only [Z9.b14]
    refine LenS.of ha1.slr ?_
    rw [show (refRows st acc).length = acc.length from List.length_map ..]
    refine CondB.dec (fun hlt => ?_) fun hge => ?_
    · have hi' : i < acc.length := by omega
      obtain ⟨y, hy⟩ : ∃ b, acc[i]? = some b := ⟨_, List.getElem?_eq_getElem hi'⟩
      have hym := hsub y (List.mem_of_getElem? hy)
      refine IA.of ha1.slr (by omega) (by rw [Int.toNat_natCast]; exact refRow_at hy) fun b o hld => Ld.a1 hld (ref st y) rfl rfl ?_
      refine CondB.mk (fun hc => ?_) fun hc => ?_
      · have he : y = nd v l h := ref_inj (.inr hym) hx (by simpa using hc)
        have hser : ser (nd v l h) acc = acc := by simp only [ser]; rw [if_pos (by rw [← he]; exact List.mem_of_getElem? hy)]
        exact ⟨Fo, by rw [hser]; exact ha1, k1.mono fun _ _ h => h.elim, fun y h => .inl h⟩
      · refine hback (acc.length - (i + 1)) _ _ (by omega) ⟨i + 1, by omega, rfl, ?_, rfl, fun j z hj hz => ?_⟩
        · exact tc rfl (tc rfl (tc rfl (tc ((wrap64 (by omega) (by omega)).trans (by omega)) rfl)))
        · by_cases hji : j = i
          · subst hji
            rw [hy] at hz
            cases hz
            intro e
            rw [e] at hc
            simp at hc
          · exact hall j z (by omega) hz
    · have hnin : nd v l h ∉ acc := fun hm => by
        obtain ⟨j, hj, e⟩ := List.getElem_of_mem hm
        exact hall j _ (by omega) (List.getElem?_eq_getElem hj) e
      have hser : ser (nd v l h) acc = ser h (ser l acc) ++ [nd v l h] := by simp only [ser]; rw [if_neg hnin]
      refine Ld.o2 o1 s r0 rfl (FA.mk (Ld.oc o1 rfl (IA.of (hs.old ho1) h0 hrow fun b o hld => FA.mk (Ld.ei hld rfl ?_))))
      refine RunT.imp ?_ (ihl inl ho1 ha1 hFo hsub hfa)
      rintro H3 (q : AC) ⟨Fo3, ha3, k3, fr3⟩
      have ho3 := ho1.keep k3 hFo
      have hb1lt := o1.lt
      have hnb : ¬ Fo b1 := fun e => by have := ha.lt b1 e; omega
      have o13 := o1.keep k3 hnb
      have hFo3 : ∀ y, Fo3 y → H0.size ≤ y := fun y e => (fr3 y e).elim (hFo y) fun e => by have := k1.size; omega
      refine Ld.o2 o13 s r0 rfl (FA.mk (Ld.oc o13 rfl (IA.of (hs.old ho3) h0 hrow fun b o hld => FA.mk (Ld.ei hld rfl ?_))))
      have hsub3 := ser_sub hfin l acc inl hsub
      have hfa3 := ser_fin l acc hro.2.2.2.2.1 hfa
      refine RunT.imp ?_ (ihh inh ho3 ha3 hFo3 hsub3 hfa3)
      rintro H4 (q2 : AC) ⟨Fo4, ha4, k4, fr4⟩
      have hsub4 := ser_sub hfin h _ inh hsub3
      have hfa4 := ser_fin h _ hro.2.2.2.2.2 hfa3
      have hl4 : (ser h (ser l acc)).length ≤ 2000 := Nat.le_trans (hfa4.nodup.length_le_of_subset fun y hy => hsub4 y hy) hlen
      have hrl : (refRows st (ser h (ser l acc))).length = (ser h (ser l acc)).length := List.length_map ..
      refine NewS.own fun pb H5 hpb hs5 op k5 => ?_
      refine App.own (ha4.kp k5) (r := [AC.int .i64 (ref st (nd v l h))]) ⟨pb, _, rfl, op.all⟩ rfl (by rw [hrl]; omega) (by rw [hrl]; omega) fun s6 H6 sl6 k6 hs6 => ?_
      have hz1 := k1.size
      have hz3 := k3.size
      have hz4 := k4.size
      refine ⟨_, by rw [hser]; unfold refRows at sl6 ⊢; rw [List.map_append]; exact sl6, ?_, ?_⟩
      · have t1 : Keep Fo H H3 := Kp.andThen k1 k3
        have t2 : Keep Fo H H4 := Keep.trans t1 k4 fun y hy e => (fr3 y e).elim id fun e => by omega
        exact Keep.trans (Keep.trans' t2 k5) k6 fun y hy e => (fr4 y e).elim (fun e => (fr3 y e).elim id fun e => by omega) fun e => by omega
      · rintro y (e | e)
        · rcases fr4 y e with e | e
          · rcases fr3 y e with e | e
            · exact .inl e
            · exact .inr (by omega)
          · exact .inr (by omega)
        · exact .inr (by omega)
theorem DiagramFault_c {s : AC} {l : List NRow} {r : Int} {H : AHeap} (hs : SlR H s 3 (nodeRows l)) :
    Fn.Z2 s r H fun H' q => q = dFault l r ∧ Kp H H' := by
  refine Z2.run ?_
  unfold Z2.W
  refine New.own fun b1 H1 hb1 hs1 o1 k1 => FA.mk (Ld.oc o1 rfl (LenS.of (hs.kp k1) ?_))
  rw [nodeRows_len]
  refine CondB.dec (fun hgt => ⟨?_, k1⟩) fun hle => ?_
  · unfold dFault; rw [if_pos (by omega)]
  have hlen : l.length ≤ 2000 := by omega
  unfold Z2.l14
  refine LoopT.rule (fun m s0 H2 => ∃ i : Nat, i ≤ l.length ∧ m = l.length - i ∧ s0 = (.ptr (some (b1, 0)), (i : Int), ()) ∧ Kp H H2 ∧ Own H2 b1 [s, .int .i64 r] ∧ scan 0 l = scan i (l.drop i)) l.length
    ⟨0, by omega, by omega, rfl, k1, o1, rfl⟩ ?_
  rintro m s0 H2 back ⟨i, hi, rfl, rfl, k2, o12, hsc⟩ hback
  simp only [Z2.b14]
  refine FA.mk (Ld.oc o12 rfl (LenS.of (hs.kp k2) ?_))
  rw [nodeRows_len]
  refine CondB.dec (fun hlt => ?_) fun hge => ?_
  · have hi' : i < l.length := by omega
    obtain ⟨p, hp⟩ : ∃ b, l[i]? = some b := ⟨_, List.getElem?_eq_getElem hi'⟩
    rw [scan_drop hp] at hsc
    refine FA.mk (Ld.oc o12 rfl (IA.of (hs.kp k2) (by omega) (by rw [Int.toNat_natCast]; exact nodeRow_at hp) fun b o hld => Ld.a3 hld p.1 p.2.1 p.2.2 rfl rfl ?_))
    refine NewSto.own rfl fun nb H3 hnb hs3 on k3 => FA.mk (Ld.oi on rfl ?_)
    have kk := k2.trans k3
    unfold Z2.p28
    refine CondB.dec (fun h0 => CondB.pos rfl ⟨?_, kk⟩) fun h0 => FA.mk (Ld.oi on rfl (CondB.dec (fun h1 => ⟨?_, kk⟩) fun h1 => ?_))
    · rw [if_pos (.inl h0)] at hsc; exact (dFault_scan hlen hsc (by omega)).symm
    · rw [if_pos (.inr (by omega))] at hsc; exact (dFault_scan hlen hsc (by omega)).symm
    rw [if_neg (by omega)] at hsc
    unfold Z2.p35
    refine FA.mk (Ld.oi on rfl (CondB.dec (fun h2 => CondB.pos rfl ⟨?_, kk⟩) fun h2 => FA.mk (Ld.oi on rfl (CondB.dec (fun h3 => CondB.pos rfl ⟨?_, kk⟩) fun h3 => FA.mk (Ld.oi on rfl (CondB.dec (fun h4 => CondB.pos rfl ⟨?_, kk⟩) fun h4 => FA.mk (Ld.oi on rfl (CondB.dec (fun h5 => ⟨?_, kk⟩) fun h5 => ?_))))))))
    · rw [if_pos (by omega)] at hsc; exact (dFault_scan hlen hsc (by omega)).symm
    · rw [if_pos (by omega)] at hsc; exact (dFault_scan hlen hsc (by omega)).symm
    · rw [if_pos (by omega)] at hsc; exact (dFault_scan hlen hsc (by omega)).symm
    · rw [if_pos (by omega)] at hsc; exact (dFault_scan hlen hsc (by omega)).symm
    rw [if_neg (by omega)] at hsc
    refine hback (l.length - (i + 1)) _ _ (by omega) ⟨i + 1, by omega, rfl, ?_, kk, o12.kp k3, hsc⟩
    exact tc rfl (tc ((wrap64 (by omega) (by omega)).trans (by omega)) rfl)
  have hsc0 : scan 0 l = 0 := by
    rw [hsc, List.drop_eq_nil_iff.2 (by omega)]; rfl
  have hnum : ∀ j p, l[j]? = some p → NumOk j p := fun j p hp => by have := scan_ok.1 hsc0 j p hp; rwa [Nat.zero_add] at this
  unfold Z2.l45
  refine LoopT.rule (fun m s0 H3 => ∃ i : Nat, i ≤ l.length ∧ m = l.length - i ∧ s0 = (.ptr (some (b1, 0)), (i : Int), ()) ∧ Kp H H3 ∧ Own H3 b1 [s, .int .i64 r] ∧ ∀ j p, j < i → l[j]? = some p → OrdOk l p ∧ OneOk l j p) l.length
    ⟨0, by omega, by omega, rfl, k2, o12, fun j p h => by omega⟩ ?_
  clear hback back
  rintro m s0 H3 back ⟨i, hi, rfl, rfl, k3, o13, hord⟩ hback
  simp only [Z2.b45]
  refine FA.mk (Ld.oc o13 rfl (LenS.of (hs.kp k3) ?_))
  rw [nodeRows_len]
  refine CondB.dec (fun hlt => ?_) fun hge => ?_
  · have hi' : i < l.length := by omega
    obtain ⟨p, hp⟩ : ∃ b, l[i]? = some b := ⟨_, List.getElem?_eq_getElem hi'⟩
    have hn := hnum i p hp
    unfold NumOk at hn
    obtain ⟨n1, n2, n3, n4, n5, n6⟩ := hn
    refine FA.mk (Ld.oc o13 rfl (IA.of (hs.kp k3) (by omega) (by rw [Int.toNat_natCast]; exact nodeRow_at hp) fun b o hld => Ld.a3 hld p.1 p.2.1 p.2.2 rfl rfl ?_))
    refine NewSto.own rfl fun nb H4 hnb hs4 on k4 => FA.mk (Ld.oi on rfl (FA.mk (Ld.oi on rfl ?_)))
    have kk := k3.trans k4
    have o14 := o13.kp k4
    have badR : ¬ CanonD l r → Z2.p59 (fun H' q => q = dFault l r ∧ Kp H H') back (.ptr (some (b1, 0))) (i : Int) (.ptr (some (nb, 0))) true H4 := by
      intro h
      unfold Z2.p59
      exact CondB.pos rfl ⟨(dFault_two hlen hsc0 h).symm, kk⟩
    have goodR : OrdOk l p → p.2.1 ≠ p.2.2 → Z2.p59 (fun H' q => q = dFault l r ∧ Kp H H') back (.ptr (some (b1, 0))) (i : Int) (.ptr (some (nb, 0))) false H4 := by
      intro h1 h2
      unfold Z2.p59
      refine CondB.neg rfl ?_
      unfold Z2.l67
      refine LoopT.rule (fun m s0 H6 => ∃ k : Nat, k ≤ i ∧ m = i - k ∧ s0 = (.ptr (some (b1, 0)), (i : Int), .ptr (some (nb, 0)), (k : Int), ()) ∧ H6 = H4 ∧ ∀ j q, j < k → l[j]? = some q → q ≠ p) i ⟨0, by omega, rfl, rfl, rfl, fun j q h => by omega⟩ ?_
      rintro m s0 H6 back2 ⟨k, hk, rfl, rfl, rfl, hdup⟩ hback2
      simp only [Z2.b67]
      refine CondB.dec (fun hlt2 => ?_) fun hge2 => ?_
      · obtain ⟨q, hq⟩ : ∃ b, l[k]? = some b := ⟨_, List.getElem?_eq_getElem (by omega)⟩
        refine FA.mk (Ld.oc o14 rfl (IA.of (hs.kp kk) (by omega) (by rw [Int.toNat_natCast]; exact nodeRow_at hq) fun b o hld => Ld.a3 hld q.1 q.2.1 q.2.2 rfl rfl (Ld.o3 on p.1 p.2.1 p.2.2 rfl ?_)))
        refine CondB.mk (fun hc => ⟨?_, kk⟩) fun hc => ?_
        · have e : q = p := by
            simp only [decide_eq_true_eq, List.cons.injEq, and_true] at hc
            exact Prod.ext hc.1 (Prod.ext hc.2.1 hc.2.2)
          exact (dFault_two hlen hsc0 fun hcan => (hcan.strict i p hp).2 k q (by omega) hq e).symm
        · refine hback2 (i - (k + 1)) _ _ (by omega) ⟨k + 1, by omega, rfl, ?_, rfl, fun j z hj hz => ?_⟩
          · exact tc rfl (tc rfl (tc rfl (tc ((wrap64 (by omega) (by omega)).trans (by omega)) rfl)))
          · by_cases hjk : j = k
            · subst hjk
              rw [hq] at hz
              cases hz
              rintro rfl
              simp at hc
            · exact hdup j z (by omega) hz
      · refine hback (l.length - (i + 1)) _ _ (by omega) ⟨i + 1, by omega, rfl, ?_, kk, o14, fun j q hj hq => ?_⟩
        · exact tc rfl (tc ((wrap64 (by omega) (by omega)).trans (by omega)) rfl)
        · by_cases hji : j = i
          · subst hji
            rw [hp] at hq
            cases hq
            exact ⟨h1, h2, fun j' q' hj' hq' => hdup j' q' (by omega) hq'⟩
          · exact hord j q (by omega) hq
    refine CondB.eq (fun he => badR fun hcan => (hcan.strict i p hp).1 he) fun hne => ?_
    -- a part's variable
    have part : ∀ (c : Int) (k : AHeap → Bool → Prop), 0 ≤ c → c < l.length → (∀ q, l[c.toNat]? = some q → k H4 (decide (q.1 ≤ p.1))) →
        FA 0 (.ptr (some (b1, 0))) fun q_30 => Ld [.ac] H4 q_30 fun (v_31 : AC) => IA 3 v_31 c fun q_34 => FA 0 q_34 fun q_35 => Ld [.int .i64] H4 q_35 fun (v_36 : Int) =>
          FA 0 (.ptr (some (nb, 0))) fun q_37 => Ld [.int .i64] H4 q_37 fun (v_38 : Int) => k H4 (decide (v_36 ≤ v_38)) := by
      intro c k h0 h1 hk
      obtain ⟨q, hq⟩ : ∃ b, l[c.toNat]? = some b := ⟨_, List.getElem?_eq_getElem (by omega)⟩
      exact FA.mk (Ld.oc o14 rfl (IA.of (hs.kp kk) h0 (nodeRow_at hq) fun b o hld => FA.mk (Ld.ei hld rfl (FA.mk (Ld.oi on rfl (hk q hq))))))
    have badO : ∀ q, (0 ≤ p.2.1 ∧ l[p.2.1.toNat]? = some q ∨ 0 ≤ p.2.2 ∧ l[p.2.2.toNat]? = some q) → q.1 ≤ p.1 → ¬ CanonD l r := by
      intro q hq hle hcan
      have := (hcan.of.1 i p hp).2
      rcases hq with ⟨h0, hq⟩ | ⟨h0, hq⟩
      · have := this.1 q h0 hq; omega
      · have := this.2 q h0 hq; omega
    have second : (∀ q, 0 ≤ p.2.1 → l[p.2.1.toNat]? = some q → p.1 < q.1) → 0 ≤ p.2.2 → ∀ q, l[p.2.2.toNat]? = some q → Z2.p59 (fun H' q => q = dFault l r ∧ Kp H H') back (.ptr (some (b1, 0))) (i : Int) (.ptr (some (nb, 0))) (decide (q.1 ≤ p.1)) H4 := by
      intro h1 h0 q hq
      by_cases hle : q.1 ≤ p.1
      · rw [decide_eq_true hle]; exact badR (badO q (.inr ⟨h0, hq⟩) hle)
      · rw [decide_eq_false hle]
        refine goodR ⟨h1, fun q' _ hq' => ?_⟩ hne
        rw [hq] at hq'; cases hq'; omega
    refine FA.mk (Ld.oi on rfl (CondB.dec (fun h1 => ?_) fun h1 => ?_))
    · obtain ⟨q1, hq1⟩ : ∃ b, l[p.2.1.toNat]? = some b := ⟨_, List.getElem?_eq_getElem (by omega)⟩
      refine FA.mk (Ld.oc o14 rfl (FA.mk (Ld.oi on rfl (IA.of (hs.kp kk) h1 (nodeRow_at hq1) fun b o hld => FA.mk (Ld.ei hld rfl (FA.mk (Ld.oi on rfl ?_)))))))
      refine CondB.dec (fun h2 => badR (badO q1 (.inl ⟨h1, hq1⟩) h2)) fun h2 => ?_
      have hlo : ∀ q, 0 ≤ p.2.1 → l[p.2.1.toNat]? = some q → p.1 < q.1 := fun q _ hq => by rw [hq1] at hq; cases hq; omega
      refine FA.mk (Ld.oi on rfl (CondB.dec (fun h3 => ?_) fun h3 => goodR ⟨hlo, fun q h0 => by omega⟩ hne))
      obtain ⟨q2, hq2⟩ : ∃ b, l[p.2.2.toNat]? = some b := ⟨_, List.getElem?_eq_getElem (by omega)⟩
      exact FA.mk (Ld.oc o14 rfl (FA.mk (Ld.oi on rfl (IA.of (hs.kp kk) h3 (nodeRow_at hq2) fun b o hld => FA.mk (Ld.ei hld rfl (FA.mk (Ld.oi on rfl (second hlo h3 q2 hq2))))))))
    · have hlo : ∀ q, 0 ≤ p.2.1 → l[p.2.1.toNat]? = some q → p.1 < q.1 := fun q h0 => by omega
      refine FA.mk (Ld.oi on rfl (CondB.dec (fun h3 => ?_) fun h3 => goodR ⟨hlo, fun q h0 => by omega⟩ hne))
      obtain ⟨q2, hq2⟩ : ∃ b, l[p.2.2.toNat]? = some b := ⟨_, List.getElem?_eq_getElem (by omega)⟩
      exact FA.mk (Ld.oc o14 rfl (FA.mk (Ld.oi on rfl (IA.of (hs.kp kk) h3 (nodeRow_at hq2) fun b o hld => FA.mk (Ld.ei hld rfl (FA.mk (Ld.oi on rfl (second hlo h3 q2 hq2))))))))
  have hall : ∀ j p, l[j]? = some p → OrdOk l p ∧ OneOk l j p := fun j p hp => hord j p (by have := (List.getElem?_eq_some_iff.1 hp).1; omega) hp
  have hok : RowsOk l := fun j p hp => ⟨hnum j p hp, (hall j p hp).1⟩
  obtain ⟨hseq, hrows⟩ := strict_seq hok fun j p hp => (hall j p hp).2
  refine FA.mk (Ld.oc o13 rfl (LenS.of (hs.kp k3) ?_))
  rw [nodeRows_len]
  unfold Z2.p92
  refine CondB.eq (fun h0 => ?_) fun h0 => ?_
  · have hl0 : l = [] := List.eq_nil_of_length_eq_zero (by omega)
    have leafC : ∀ b : Bool, r = ref [] (leaf b) → CanonD l r := fun b e => ⟨leaf b, trivial, by rw [hl0]; rfl, by rw [e]; cases b <;> rfl⟩
    refine FA.mk (Ld.oi o13 rfl (CondB.ne (fun h1 => FA.mk (Ld.oi o13 rfl (CondB.ne (fun h2 => ⟨?_, k3⟩) fun h2 => ⟨?_, k3⟩))) fun h1 => CondB.neg rfl ⟨?_, k3⟩))
    · exact (dFault_two hlen hsc0 fun hcan => by
        have := hcan.root
        rw [if_pos hl0] at this
        omega).symm
    · exact (dFault_zero hlen (leafC true h2)).symm
    · exact (dFault_zero hlen (leafC false h1)).symm
  · have hl0 : l ≠ [] := fun e => h0 (by rw [e]; rfl)
    have hpos : 0 < l.length := List.length_pos_iff.2 hl0
    refine FA.mk (Ld.oi o13 rfl (FA.mk (Ld.oc o13 rfl (LenS.of (hs.kp k3) ?_))))
    rw [nodeRows_len, show IntKind.wrap .i64 ((l.length : Int) - 1) = (l.length : Int) - 1 from wrap64 (by omega) (by omega)]
    refine CondB.ne (fun h1 => ⟨?_, k3⟩) fun h1 => ?_
    · exact (dFault_two hlen hsc0 fun hcan => by
        have := hcan.root
        rw [if_neg hl0] at this
        exact h1 this).symm
    obtain ⟨st, hst⟩ : ∃ st, st = bld l := ⟨_, rfl⟩
    rw [← hst] at hseq hrows
    have hstl : st.length = l.length := by rw [hst, bld_len]
    obtain ⟨x, hx⟩ : ∃ x, x = st[l.length - 1]'(by omega) := ⟨_, rfl⟩
    have hget : st[l.length - 1]? = some x := by rw [hx]; exact List.getElem?_eq_getElem (by omega)
    have hxin : In st x := .inr (List.mem_of_getElem? hget)
    have hxref : ref st x = r := by rw [ref_idx hseq.1 hget]; omega
    have hsl : SlR H3 s 3 (nodeRows (st.map (row st))) := by rw [hrows]; exact hs.kp k3
    have hxro := hseq.1.ro hxin
    refine Ld.o2 o13 s r rfl (FA.mk (Ld.oi o13 rfl ?_))
    rw [← hxref]
    refine RunT.imp ?_ (numbered_c hsl hseq.1 (by omega) x hxin (Old.refl _) (OwnS.nil _ _) (fun y h => h.elim) (fun y h => by cases h) Fin.nil)
    rintro H4 (q : AC) ⟨Fo, ha, k4, fr⟩
    have k4' : Kp H3 H4 := k4.mono fun _ _ h => h
    have kk := k3.trans k4'
    have hrl : (refRows st (ser x [])).length = (ser x []).length := List.length_map ..
    have hsub := ser_sub hseq.1 x [] hxin fun y h => by cases h
    refine LenS.of ha.slr ?_
    rw [hrl]
    refine FA.mk (Ld.oc (o13.kp k4') rfl (LenS.of (hs.kp kk) ?_))
    rw [nodeRows_len, ← hxref] at *
    have canonX : CanonD l (ref st x) → ser x [] = st := by
      rintro ⟨y, hy, e1, e2⟩
      have f := ser_seq y [] hy Seq.nil
      have hst' : st = ser y [] := by rw [hst, e1, bld_rows f]
      have hxy : x = y := ref_inj hxin (by rw [hst']; exact ser_in y []) (by rw [e2, hst'])
      rw [hst', hxy]
    refine CondB.ne (fun h2 => ⟨?_, kk⟩) fun h2 => ?_
    · exact (dFault_two hlen hsc0 fun hcan => by rw [canonX hcan, hstl] at h2; exact h2 rfl).symm
    have hlx : (ser x []).length = st.length := by omega
    unfold Z2.l123
    refine LoopT.rule (fun m s0 H6 => ∃ k : Nat, k ≤ l.length ∧ m = l.length - k ∧ s0 = (q, (k : Int), ()) ∧ H6 = H4 ∧ ∀ (j : Nat) (y : DT), j < k → (ser x [])[j]? = some y → ref st y = j) l.length ⟨0, by omega, rfl, rfl, rfl, fun j y h => by omega⟩ ?_
    rintro m s0 H6 back2 ⟨k, hk, rfl, rfl, rfl, hidx⟩ hback2
    simp only [Z2.b123]
    refine LenS.of ha.slr ?_
    rw [hrl]
    refine CondB.dec (fun hlt2 => ?_) fun hge2 => ?_
    · obtain ⟨y, hy⟩ : ∃ y, (ser x [])[k]? = some y := ⟨_, List.getElem?_eq_getElem (by omega)⟩
      refine IA.of ha.slr (by omega) (by rw [Int.toNat_natCast]; exact refRow_at hy) fun b o hld => Ld.a1 hld (ref st y) rfl rfl ?_
      refine CondB.ne (fun h3 => ⟨?_, kk⟩) fun h3 => ?_
      · exact (dFault_two hlen hsc0 fun hcan => by
          rw [canonX hcan] at hy
          exact h3 (ref_idx hseq.1 hy)).symm
      · refine hback2 (l.length - (k + 1)) _ _ (by omega) ⟨k + 1, by omega, rfl, ?_, rfl, fun j z hj hz => ?_⟩
        · exact tc rfl (tc ((wrap64 (by omega) (by omega)).trans (by omega)) rfl)
        · by_cases hjk : j = k
          · subst hjk
            rw [hy] at hz
            cases hz
            exact h3
          · exact hidx j z (by omega) hz
    · have hser := ser_all hlx (fun j y hy => hidx j y (by have := (List.getElem?_eq_some_iff.1 hy).1; omega) hy) hsub
      refine ⟨(dFault_zero hlen ⟨x, hxro, ?_, ?_⟩).symm, kk⟩
      · rw [hser, hrows]
      · rw [hser]
end Go.Proofs.Ytanaaabejeeakaa
end
section
namespace Go.Proofs.Ytanaaabejeeakaa
open Go.AI Go.AI.DT
theorem tab_cells {g : (Nat → Bool) → Bool} {cs : List AC} (hl : cs.length = 65536) (h : ∀ j, j < 65536 → cs[j]? = some (.bool (g (rho j)))) : cs = (tabOf g).map AC.bool := by
  obtain ⟨N, hN⟩ : ∃ N : Nat, N = 65536 := ⟨_, rfl⟩
  unfold tabOf
  rw [← hN] at hl h ⊢
  apply List.ext_getElem?
  intro j
  by_cases hj : j < N
  · rw [h j hj, List.getElem?_map, List.getElem?_map, List.getElem?_range hj]; rfl
  · rw [List.getElem?_eq_none (by omega), List.getElem?_eq_none (by rw [List.length_map, List.length_map, List.length_range]; omega)]
theorem tab_own {H : AHeap} {tb : Nat} {cap : Option Nat} {g : (Nat → Bool) → Bool} (h : Own H tb ((tabOf g).map AC.bool)) : SlR H (.sl (some (tb, 0)) 1 65536 cap) 1 (boolRows (tabOf g)) := by
  have e : ((tabOf g).map AC.bool).length = 65536 := by rw [List.length_map]; exact tabOf_len g
  have := h.slr cap
  rw [e, List.map_map] at this
  exact this
theorem tab_cell {g : (Nat → Bool) → Bool} {i : Nat} (hi : i < 65536) : ((tabOf g).map AC.bool)[i]? = some (.bool (g (rho i))) := by
  rw [List.getElem?_map, tabOf_get g i hi]; rfl
theorem eval_congr16 {ρ ρ' : Nat → Bool} (h : ∀ v, v < 16 → ρ v = ρ' v) : ∀ x : DT, x.RO → x.eval ρ = x.eval ρ'
  | leaf _, _ => rfl
  | nd v l r, hr => by
    simp only [eval]
    rw [h v hr.1, eval_congr16 h l hr.2.2.2.2.1, eval_congr16 h r hr.2.2.2.2.2]
theorem OfTable_e {tb : Nat} {cap : Option Nat} {g : (Nat → Bool) → Bool} {H : AHeap} (h : Own H tb ((tabOf g).map AC.bool)) (hg : ∀ ρ ρ' : Nat → Bool, (∀ v, v < 16 → ρ v = ρ' v) → g ρ = g ρ') :
    Fn.Z5 (.sl (some (tb, 0)) 1 65536 cap) H fun H' ns root err => ERes H H' 0 g ns root err ∧ Kp H H' := by
  refine RunT.imp ?_ (OfTable_c (tab_own h) (tabOf_len g))
  intro H' ns root err hh
  have key : ∃ t, t = tree 16 (tabOf g) ∧ t.RO ∧ ∀ ρ, t.eval ρ = g ρ := ⟨_, rfl, tabOf_tree hg⟩
  obtain ⟨t, ht, h1, h2⟩ := key
  rw [← ht] at hh
  exact ⟨.inr ⟨rfl, t, h1, h2, hh.1⟩, hh.2⟩
theorem dTree {l : List NRow} {r : Int} (h : dFault l r = 0) : ∃ x : DT, x.RO ∧ (ser x []).length ≤ 2000 ∧ l = rowsOf x ∧ r = ref (ser x []) x ∧ ∀ ρ, dVal l r ρ = x.eval ρ := by
  obtain ⟨h1, h2⟩ := dFault_len h
  have hx := h2.of
  refine ⟨atR (bld l) r, hx.2.2.2.1, ?_, hx.2.2.2.2.1, hx.2.2.2.2.2, fun ρ => rfl⟩
  have := congrArg List.length hx.2.2.2.2.1
  rw [List.length_map] at this
  omega
end Go.Proofs.Ytanaaabejeeakaa
end
section
namespace Go.Proofs.Ytanaaabejeeakaa
open Go.AI Go.AI.DT
end Go.Proofs.Ytanaaabejeeakaa
end
section
namespace Go.Proofs.Ytanaaabejeeakaa
open Go.AI Go.AI.DT
def intRows (l : List Int) : List (List AC) := l.map fun n => [AC.int .i64 n]
structure LL (H : AHeap) (s : AC) (Fo Gi : Nat → Prop) (L : List (List Int)) : Prop where
  ex : ∃ ss : List AC, OwnS H s 1 Fo (ss.map fun c => [c]) ∧ ss.length = L.length ∧ ∀ (i : Nat) (c : AC) (l : List Int), ss[i]? = some c → L[i]? = some l → SlR H c 1 (intRows l) ∧ ∀ b o z m cap, c = .sl (some (b, o)) z m cap → Gi b
  sep : ∀ y, Gi y → y < H.size ∧ ¬ Fo y
theorem LL.keep {S Fo Gi : Nat → Prop} {H H' : AHeap} {s : AC} {L : List (List Int)} (h : LL H s Fo Gi L) (k : Keep S H H') (hd : ∀ y, S y → ¬ Fo y ∧ ¬ Gi y) : LL H' s Fo Gi L := by
  obtain ⟨ss, h1, h2, h3⟩ := h.ex
  refine ⟨⟨ss, h1.keep k fun y hy => (hd y hy).1, h2, fun i c l hc hl => ?_⟩, fun y hy => ⟨Nat.lt_of_lt_of_le (h.sep y hy).1 k.size, (h.sep y hy).2⟩⟩
  obtain ⟨g1, g2⟩ := h3 i c l hc hl
  exact ⟨g1.keep k fun b o m cap z e hS => (hd b hS).2 (g2 b o _ _ _ e), g2⟩
theorem LL.kp {Fo Gi : Nat → Prop} {H H' : AHeap} {s : AC} {L : List (List Int)} (h : LL H s Fo Gi L) (k : Kp H H') : LL H' s Fo Gi L := h.keep k fun _ h => h.elim
theorem LL.nil (H : AHeap) : LL H (.sl none 0 0 (some 0)) (fun _ => False) (fun _ => False) [] := ⟨⟨[], OwnS.nil _ _, rfl, fun i c l h => by simp at h⟩, fun _ h => h.elim⟩
theorem LL.lt {Fo Gi : Nat → Prop} {H : AHeap} {s : AC} {L : List (List Int)} (h : LL H s Fo Gi L) : ∀ y, Fo y → y < H.size := by
  obtain ⟨ss, h1, _⟩ := h.ex
  exact h1.lt
theorem LL.len {Fo Gi : Nat → Prop} {H : AHeap} {s : AC} {L : List (List Int)} (h : LL H s Fo Gi L) {k : Int → Prop} (q : k (L.length : Int)) : LenS s k := by
  obtain ⟨ss, h1, h2, _⟩ := h.ex
  refine LenS.of h1.slr ?_
  rw [List.length_map, h2]
  exact q
theorem LL.app {Fo Gi G : Nat → Prop} {H : AHeap} {s x c : AC} {L : List (List Int)} {l : List Int} {e : Nat} {K : AC → AHeap → Prop} (h : LL H s Fo Gi L) (hx : ∃ p cap, x = .sl (some (p, 0)) 1 1 cap ∧ H.load (p, 0) 1 = some [c])
    (hc : SlR H c 1 (intRows l)) (hG : ∀ b o z m cap, c = .sl (some (b, o)) z m cap → G b) (hGl : ∀ y, G y → y < H.size ∧ ¬ Fo y) (hl : L.length ≤ 65536)
    (q : ∀ s' H', LL H' s' (fun y => Fo y ∨ y = H.size) (fun y => Gi y ∨ G y) (L ++ [l]) → Keep Fo H H' → H'.size = H.size + 1 → K s' H') : App e 1 24 s x H K := by
  obtain ⟨ss, h1, h2, h3⟩ := h.ex
  refine App.own h1 (r := [c]) hx rfl (by rw [List.length_map]; omega) (by rw [List.length_map]; omega) fun s' H' sl' k' hs' => q s' H' ⟨⟨ss ++ [c], ?_, by simp [h2], fun i d m hd hm => ?_⟩, fun y hy => ?_⟩ k' hs'
  · rw [List.map_append]
    exact sl'
  · by_cases hi : i < L.length
    · rw [List.getElem?_append_left (by omega)] at hd hm
      obtain ⟨g1, g2⟩ := h3 i d m hd hm
      exact ⟨g1.keep k' fun b o m cap z e hF => (h.sep b (g2 b o _ _ _ e)).2 hF, fun b o z m cap e => .inl (g2 b o z m cap e)⟩
    · have hi' : i = L.length := by
        have := (List.getElem?_eq_some_iff.1 hm).1
        simp at this; omega
      subst hi'
      rw [List.getElem?_append_right (by omega)] at hd hm
      simp [h2] at hd hm
      subst hd hm
      exact ⟨hc.keep k' fun b o m cap z e hF => (hGl b (hG b o _ _ _ e)).2 hF, fun b o z m cap e => .inr (hG b o z m cap e)⟩
  · have hy' : y < H.size ∧ ¬ Fo y := hy.elim (h.sep y) (hGl y)
    exact ⟨by omega, fun e => e.elim hy'.2 fun e => by omega⟩
end Go.Proofs.Ytanaaabejeeakaa
end
section
namespace Go.AI
open DT
def asg (n i : Nat) : Nat → Bool := fun w => decide (w < n) && i.testBit (n - 1 - w)
def neg : DT → DT
  | leaf b => leaf (!b)
  | nd v l h => nd v (neg l) (neg h)
end Go.AI
end
section
namespace Go.Proofs.Ytanaaabejeeakaa
open Go.AI Go.AI.DT
end Go.Proofs.Ytanaaabejeeakaa
end
section
namespace Go.Proofs.Ytanaaabejeeakaa
open Go.AI Go.AI.DT
end Go.Proofs.Ytanaaabejeeakaa
end
section
namespace Go.AI
open DT
end Go.AI
end
section
namespace Go.Proofs.Ytanaaabejeeakaa
open Go.AI Go.AI.DT
structure MP where
  (ob mb nb vb xb sb cb : Nat)
def MP.loc (p : MP) (y : Nat) : Prop := y = p.ob ∨ y = p.mb ∨ y = p.nb ∨ y = p.vb ∨ y = p.xb ∨ y = p.sb ∨ y = p.cb
structure MS (H : AHeap) (p : MP) (s : AC) (r0 : Int) (n : Nat) (most : Int) (Fo Gi : Nat → Prop) (L : List (List Int)) (cs : List Int) : Prop where
  o1 : ∃ out, Own H p.ob [out] ∧ LL H out Fo Gi L
  o2 : Own H p.mb [.int .i64 most]
  o3 : Own H p.nb [.int .i64 (n : Int)]
  o4 : Own H p.vb [.sl (some (p.cb, 0)) 1 n (some n)]
  o5 : Own H p.xb [s, .int .i64 r0]
  o6 : Own H p.sb [.fn 59 [] [(p.ob, 0), (p.mb, 0), (p.nb, 0), (p.vb, 0), (p.xb, 0), (p.sb, 0)]]
  oc : Own H p.cb (cs.map (AC.int .i64))
  len : cs.length = n
  d : ∀ y, Fo y ∨ Gi y → ¬ p.loc y
  ne1 : p.ob ≠ p.mb ∧ p.ob ≠ p.nb ∧ p.ob ≠ p.vb ∧ p.ob ≠ p.xb ∧ p.ob ≠ p.sb ∧ p.ob ≠ p.cb
  ne2 : p.cb ≠ p.mb ∧ p.cb ≠ p.nb ∧ p.cb ≠ p.vb ∧ p.cb ≠ p.xb ∧ p.cb ≠ p.sb
theorem MS.kp {H H' : AHeap} {p : MP} {s : AC} {r0 : Int} {n : Nat} {most : Int} {Fo Gi : Nat → Prop} {L : List (List Int)} {cs : List Int} (h : MS H p s r0 n most Fo Gi L cs) (k : Kp H H') : MS H' p s r0 n most Fo Gi L cs :=
  ⟨let ⟨o, a, b⟩ := h.o1; ⟨o, a.kp k, b.kp k⟩, h.o2.kp k, h.o3.kp k, h.o4.kp k, h.o5.kp k, h.o6.kp k, h.oc.kp k, h.len, h.d, h.ne1, h.ne2⟩
theorem MS.lt {H : AHeap} {p : MP} {s : AC} {r0 : Int} {n : Nat} {most : Int} {Fo Gi : Nat → Prop} {L : List (List Int)} {cs : List Int} (h : MS H p s r0 n most Fo Gi L cs) : ∀ y, p.loc y → y < H.size := by
  obtain ⟨out, a, _⟩ := h.o1
  rintro y (e | e | e | e | e | e | e)
  · rw [e]; exact a.lt
  · rw [e]; exact h.o2.lt
  · rw [e]; exact h.o3.lt
  · rw [e]; exact h.o4.lt
  · rw [e]; exact h.o5.lt
  · rw [e]; exact h.o6.lt
  · rw [e]; exact h.oc.lt
theorem MS.put {H : AHeap} {p : MP} {s : AC} {r0 : Int} {n : Nat} {most : Int} {Fo Gi : Nat → Prop} {L : List (List Int)} {cs : List Int} (h : MS H p s r0 n most Fo Gi L cs) {v : Nat} (hv : v < n) {b : Int} {K : AHeap → Prop}
    (q : ∀ H', MS H' p s r0 n most Fo Gi L (cs.set v b) → Keep (fun y => y = p.cb) H H' → H'.size = H.size → K H') : Sto H (.ptr (some (p.cb, 0 + (v : Int).toNat * 1))) [.int .i64 b] K := by
  have hcl := h.len
  refine Sto.cell h.oc (by simp [hcl]; omega) fun H' oc' k' hs' => q H' ?_ k' hs'
  obtain ⟨out, a, b'⟩ := h.o1
  have hcb : p.loc p.cb := .inr (.inr (.inr (.inr (.inr (.inr rfl)))))
  refine ⟨⟨out, a.keep k' (fun e => h.ne1.2.2.2.2.2 e), b'.keep k' fun y e => ?_⟩, h.o2.keep k' (fun e => h.ne2.1 e.symm), h.o3.keep k' (fun e => h.ne2.2.1 e.symm), h.o4.keep k' (fun e => h.ne2.2.2.1 e.symm), h.o5.keep k' (fun e => h.ne2.2.2.2.1 e.symm), h.o6.keep k' (fun e => h.ne2.2.2.2.2 e.symm), ?_, by rw [List.length_set, hcl], h.d, h.ne1, h.ne2⟩
  · subst e
    exact ⟨fun e => h.d _ (.inl e) hcb, fun e => h.d _ (.inr e) hcb⟩
  · rw [List.map_set]
    simpa using oc'
end Go.Proofs.Ytanaaabejeeakaa
end
section
namespace Go.Proofs.Ytanaaabejeeakaa
open Go.AI Go.AI.DT
end Go.Proofs.Ytanaaabejeeakaa
end
section
namespace Go.Proofs.Ytanaaabejeeakaa
open Go.AI Go.AI.DT
end Go.Proofs.Ytanaaabejeeakaa
end
section
namespace Go.AI
open Go.Lib
theorem callE_told {P : Program} [BaseC P] {f : FuncId} {args : List AV} {H : AHeap} {r} (hb : BaseC.has P f = true) (h : BaseC.call P f args H = some r) : callE P f args H = some r := by
  refine callE_some.2 ⟨1, ?_⟩
  unfold callA
  rw [if_pos hb, h]
theorem runT_told {P : Program} [BaseC P] {rs : List (Bool × List CT)} {f : FuncId} {args : List AV} {H H' : AHeap} {v : AV} {K : AHeap → Cur (flat rs)} (hb : BaseC.has P f = true) (h : BaseC.call P f args H = some (v, H')) (xs : Tup (flat rs)) (hv : v = joinR (splitP rs (cellsOf (flat rs) xs)))
    (k : app (flat rs) (K H') xs) : RunT P rs f args H K := ⟨v, H', callE_told hb h, xs, hv, k⟩
def iRows (l : List Int) : List (List AC) := l.map fun n => [AC.int .i64 n]
theorem iRows_flat : ∀ l : List Int, (iRows l).flatten = l.map (AC.int .i64)
  | [] => rfl
  | a :: l => by
    have := iRows_flat l
    unfold iRows at this ⊢
    rw [List.map_cons, List.flatten_cons, this]
    rfl
theorem iRows_len (l : List Int) : (iRows l).length = l.length := by unfold iRows; rw [List.length_map]
theorem OwnS.turn {H : AHeap} {s : AC} {F : Nat → Prop} {l l' : List Int} (h : OwnS H s 1 F (iRows l)) (hw : GW H) (hl : l'.length = l.length) :
    s = .sl none 0 0 (some 0) ∧ l = [] ∨ ∃ b cap H', s = .sl (some (b, 0)) 1 l.length cap ∧ H.load (b, 0) l.length = some (l.map (AC.int .i64)) ∧ H.store (b, 0) (l'.map (AC.int .i64)) = some H' ∧ OwnS H' s 1 F (iRows l') ∧ Keep F H H' ∧ H'.size = H.size := by
  rcases h.ex with ⟨h1, h2⟩ | ⟨b, e, g, st, cap, h1, hg, h3, h4, h5, h6⟩
  · refine .inl ⟨h1, ?_⟩
    have := congrArg List.length h2
    rw [iRows_len] at this
    exact List.eq_nil_of_length_eq_zero this
  · rw [iRows_len] at h1
    rw [iRows_flat] at hg
    have hblt := AHeap.get_lt hg
    obtain ⟨H', hH'⟩ : ∃ H', H' = H.stores b e g st 0 ((l.map (AC.int .i64)).map some) ((l'.map (AC.int .i64)).map some) := ⟨_, rfl⟩
    have hst : H.store (b, 0) (l'.map (AC.int .i64)) = some H' := by
      unfold AHeap.store
      simp only [hg]
      rw [if_pos (by simp [hl]), hH']
    have hsz : H'.size = H.size := by rw [hH']; exact AHeap.size_stores _ _ _ _ _ _ _ _
    have hext : ∀ k, H'.ext k = H.ext k := fun k => by rw [hH']; exact AHeap.ext_stores _ _ _ _ _ _ _ _ _
    have hnew : splice ((l.map (AC.int .i64)).map some) 0 ((l'.map (AC.int .i64)).map some) = (l'.map (AC.int .i64)).map some := by
      rw [splice_map _ _ 0 (by simp [hl]), List.take_zero, List.nil_append, List.drop_eq_nil_of_le (by simp [hl]), List.append_nil]
    -- what each block holds behind it
    have hget : ∀ m, H'.get m = if m = b then some (.row e g st false ((l'.map (AC.int .i64)).map some)) else if (H.ext g).2 = true ∧ ¬ (H.ext g).1 ≤ st + 0 then (H.get m).map (blot g (st + 0) (st + 0 + l'.length)) else H.get m := by
      intro m
      rw [hH']
      unfold AHeap.stores
      rw [AHeap.get_set, hnew]
      have hlt' : b < (if (H.ext g).2 = true then H.blotGroup g (st + 0) (st + 0 + ((l'.map (AC.int .i64)).map some).length) else H).size := by
        split
        · rw [AHeap.size_blotGroup]; exact hblt
        · exact hblt
      by_cases hm : m = b
      · rw [if_pos ⟨hm, hlt'⟩, if_pos hm]
      · rw [if_neg (fun k => hm k.1), if_neg hm]
        by_cases hx : (H.ext g).2 = true
        · rw [if_pos hx]
          unfold AHeap.blotGroup
          by_cases hy : (H.ext g).1 ≤ st + 0
          · rw [if_pos hy, if_neg (fun k => k.2 hy)]
          · rw [if_neg hy, if_pos ⟨hx, hy⟩, AHeap.get_blotAll]
            by_cases hml : m < H.size
            · rw [if_pos hml]; simp
            · rw [if_neg hml]
              have : H.get m = none := by unfold AHeap.get; rw [if_neg hml]
              rw [this]; rfl
        · rw [if_neg hx, if_neg (fun k => hx k.1)]
    -- rows keep their groups
    have rowOf : ∀ x e' g' st' ro' cs', H'.get x = some (.row e' g' st' ro' cs') → ∃ e1 st1 ro1 cs1, H.get x = some (.row e1 g' st1 ro1 cs1) := by
      intro x e' g' st' ro' cs' hx
      rw [hget] at hx
      split at hx
      · next hxb => cases hx; subst hxb; exact ⟨_, _, _, _, hg⟩
      split at hx
      · obtain ⟨o, ho, hb⟩ := Option.map_eq_some_iff.1 hx
        cases o with
        | map _ => cases hb
        | loop => cases hb
        | row e1 g1 st1 ro1 cs1 =>
          simp only [blot] at hb
          split at hb
          · cases hb; exact ⟨_, _, _, _, ho⟩
          · cases hb; exact ⟨_, _, _, _, ho⟩
      · exact ⟨_, _, _, _, hx⟩
    have rowTo : ∀ x e' g' st' ro' cs', H.get x = some (.row e' g' st' ro' cs') → ∃ e1 st1 ro1 cs1, H'.get x = some (.row e1 g' st1 ro1 cs1) := by
      intro x e' g' st' ro' cs' hx
      rw [hget]
      split
      · next hxb => subst hxb; rw [hg] at hx; cases hx; exact ⟨_, _, _, _, rfl⟩
      split
      · rw [hx]
        simp only [Option.map_some, blot]
        split
        · exact ⟨_, _, _, _, rfl⟩
        · exact ⟨_, _, _, _, rfl⟩
      · exact ⟨_, _, _, _, hx⟩
    have keep : Keep F H H' := by
      refine ⟨by omega, fun x hx hn => ?_, fun x hx hn => hext x, ⟨fun hw' x e' g' st' ro' cs' hx => ?_, fun hw' x e' g' st' ro' cs' hx => ?_⟩, fun x e' g' st' ro' cs' hx _ _ => rowOf x _ _ _ _ _ hx⟩
      · rw [hget, if_neg (fun k => hn (by rw [k]; exact h5))]
        split
        · cases ho : H.get x with
          | none => rfl
          | some o =>
            cases o with
            | map _ => rfl
            | loop => rfl
            | row e1 g1 st1 ro1 cs1 =>
              simp only [Option.map_some, blot]
              rw [if_neg]
              rintro rfl
              exact hn (h.grp hw _ _ _ _ _ _ _ _ _ _ _ _ _ _ _ h1 hg ho)
        · rfl
      · obtain ⟨_, _, _, _, hx'⟩ := rowOf _ _ _ _ _ _ hx
        exact hw' _ _ _ _ _ _ hx'
      · obtain ⟨_, _, _, _, hx'⟩ := rowTo _ _ _ _ _ _ hx
        exact hw' _ _ _ _ _ _ hx'
    refine .inr ⟨b, cap, H', h1, ?_, hst, ⟨fun r hr => ?_, fun x hx => by have := h.lt x hx; omega, .inr ⟨b, e, g, st, cap, by rw [iRows_len, hl]; exact h1, ?_, ?_, ?_, h5, h6⟩, fun hw' b' o z n cap' e' g' st' ro cs x e2 st2 ro2 cs2 hs hb hx => ?_⟩, keep, hsz⟩
    · rw [load_of hg (by simp), List.drop_zero, List.take_of_length_le (by simp)]
    · unfold iRows at hr
      obtain ⟨n, _, rfl⟩ := List.mem_map.1 hr
      rfl
    · rw [hget, if_pos rfl, iRows_flat]
    · rw [hext, iRows_flat, List.length_map, hl]
      rw [iRows_flat, List.length_map] at h3
      exact h3
    · rw [iRows_len, hl]
      rw [iRows_len] at h4
      exact h4
    · rw [h1] at hs
      cases hs
      rw [hget, if_pos rfl] at hb
      cases hb
      obtain ⟨_, _, _, _, hx'⟩ := rowOf _ _ _ _ _ _ hx
      exact h.grp hw _ _ _ _ _ _ _ _ _ _ _ _ _ _ _ h1 hg hx'
end Go.AI
end
section
namespace Go.AI
open Go.Lib
theorem compact_asc {d : Array Int} (hs : ∀ i j, i ≤ j → j < d.size → d[i]! ≤ d[j]!) : ∀ m, m ≤ d.size → (compactUpTo d m).Pairwise (· < ·) ∧ ∀ x, x ∈ compactUpTo d m ↔ ∃ j, j < m ∧ d[j]! = x
  | 0, _ => by
    have e : compactUpTo d 0 = [] := rfl
    rw [e]
    exact ⟨List.Pairwise.nil, fun x => ⟨fun h => (List.not_mem_nil h).elim, fun ⟨j, h, _⟩ => by omega⟩⟩
  | m + 1, hm => by
    obtain ⟨h1, h2⟩ := compact_asc hs m (by omega)
    rw [compactUpTo_succ]
    by_cases hk : keeps d m = true
    · rw [if_pos hk]
      refine ⟨List.pairwise_append.2 ⟨h1, List.pairwise_singleton _ _, fun a ha b hb => ?_⟩, fun x => ?_⟩
      · obtain rfl := List.mem_singleton.1 hb
        obtain ⟨j, hj, rfl⟩ := (h2 a).1 ha
        have e1 := hs j (m - 1) (by omega) (by omega)
        have e2 := hs (m - 1) m (by omega) (by omega)
        have : d[m]! ≠ d[m - 1]! := fun e => by
          rw [keeps_neg (by omega) e] at hk; cases hk
        omega
      · rw [List.mem_append, h2, List.mem_singleton]
        constructor
        · rintro (⟨j, hj, e⟩ | e)
          · exact ⟨j, by omega, e⟩
          · exact ⟨m, by omega, e.symm⟩
        · rintro ⟨j, hj, e⟩
          by_cases hjm : j = m
          · subst hjm; exact .inr e.symm
          · exact .inl ⟨j, by omega, e⟩
    · rw [if_neg hk, List.append_nil]
      have hm0 : 0 < m := by
        rcases Nat.eq_zero_or_pos m with e | e
        · subst e; exact absurd (keeps_lt_one d 0 (by omega)) hk
        · exact e
      have he : d[m]! = d[m - 1]! := Decidable.by_contra fun h => hk (keeps_pos h)
      refine ⟨h1, fun x => ?_⟩
      rw [h2]
      constructor
      · rintro ⟨j, hj, e⟩
        exact ⟨j, by omega, e⟩
      · rintro ⟨j, hj, e⟩
        by_cases hjm : j = m
        · subst hjm; exact ⟨j - 1, by omega, by rw [← he, e]⟩
        · exact ⟨j, by omega, e⟩
theorem compact_sort (l : List Int) : (compact (l.mergeSort fun x y => decide (x ≤ y))).Pairwise (· < ·) ∧ ∀ x, x ∈ compact (l.mergeSort fun x y => decide (x ≤ y)) ↔ x ∈ l := by
  obtain ⟨z, hz⟩ : ∃ z, z = l.mergeSort fun x y => decide (x ≤ y) := ⟨_, rfl⟩
  have hp : z.Pairwise fun x y => decide (x ≤ y) = true := by
    rw [hz]
    refine List.pairwise_mergeSort (fun a b c h1 h2 => ?_) (fun a b => ?_) l
    · simp only [decide_eq_true_eq] at h1 h2 ⊢; omega
    · simp only [Bool.or_eq_true, decide_eq_true_eq]; omega
  have hmem : ∀ x, x ∈ z ↔ x ∈ l := fun x => by rw [hz]; exact List.mem_mergeSort
  rw [← hz]
  have get : ∀ j, j < z.length → z.toArray[j]! = z[j]! := fun j hj => by simp
  have hs : ∀ i j, i ≤ j → j < z.toArray.size → z.toArray[i]! ≤ z.toArray[j]! := by
    intro i j hij hj
    have hj' : j < z.length := by simpa using hj
    rw [get i (by omega), get j hj']
    by_cases e : i = j
    · subst e; omega
    · have := List.pairwise_iff_getElem.1 hp i j (by omega) hj' (by omega)
      simp only [decide_eq_true_eq] at this
      rw [getElem!_pos z i (by omega), getElem!_pos z j hj']
      exact this
  obtain ⟨h1, h2⟩ := compact_asc hs z.length (by simp)
  refine ⟨h1, fun x => ?_⟩
  rw [← hmem x]
  refine (h2 x).trans ⟨?_, fun h => ?_⟩
  · rintro ⟨j, hj, rfl⟩
    rw [get j hj, getElem!_pos z j hj]
    exact List.getElem_mem _
  · obtain ⟨j, hj, e⟩ := List.getElem_of_mem h
    exact ⟨j, hj, by rw [get j hj, getElem!_pos z j hj, e]⟩
end Go.AI
end
section
namespace Go.Proofs.Ytanaaabejeeakaa
open Go.AI Go.AI.DT Go.Lib
def sortI (l : List Int) : List Int := l.mergeSort fun x y => decide (x ≤ y)
theorem Sort_o {s : AC} {F : Nat → Prop} {l : List Int} {H : AHeap} (h : OwnS H s 1 F (iRows l)) (hw : GW H) (hl : l.length < 4611686018427387904) :
    Fn.slices_Sort_int_int s H fun H' => OwnS H' s 1 F (iRows (sortI l)) ∧ Keep F H H' := by
  unfold Fn.slices_Sort_int_int
  rcases h.turn (l' := sortI l) hw (List.length_mergeSort _) with ⟨rfl, rfl⟩ | ⟨b, cap, H', rfl, h1, h2, h3, h4, _⟩
  · exact runT_told (v := .tup []) (H' := H) rfl rfl () rfl ⟨by simpa [sortI] using h, Keep.refl _ _⟩
  · by_cases h0 : l.length = 0
    · have hl0 := List.eq_nil_of_length_eq_zero h0
      subst hl0
      exact runT_told (v := .tup []) (H' := H) rfl rfl () rfl ⟨by simpa [sortI] using h, Keep.refl _ _⟩
    · refine runT_told (v := .tup []) (H' := H') rfl ?_ () rfl ⟨h3, h4⟩
      show sortB H [.one (.sl (some (b, 0)) 1 l.length cap)] = _
      simp only [sortB, if_neg h0, if_neg (show ¬ l.length ≥ 4611686018427387904 by omega), h1, Option.bind_some, intsOf_map]
      show (H.store (b, 0) ((sortI l).map (AC.int .i64))).map _ = _
      rw [h2]
      rfl
theorem slr_take {H : AHeap} {b n m : Nat} {cap : Option Nat} {rows : List (List AC)} (h : SlR H (.sl (some (b, 0)) 1 n cap) 1 rows) (hm : m ≤ n) : SlR H (.sl (some (b, 0)) 1 m cap) 1 (rows.take m) := by
  obtain ⟨a, z, cap', e, hr⟩ := h.ex
  cases e
  refine ⟨_, 1, cap, by rw [List.length_take, Nat.min_eq_left hm], fun i r hi => ?_⟩
  rw [List.getElem?_take] at hi
  split at hi
  · obtain ⟨_, b', o', e, hl⟩ := hr i r hi
    exact ⟨rfl, b', o', e, hl⟩
  · cases hi
theorem Compact_o {s : AC} {F : Nat → Prop} {l : List Int} {H : AHeap} (h : OwnS H s 1 F (iRows l)) (hw : GW H) (hl : l.length < 4611686018427387904) :
    Fn.slices_Compact_int_int s H fun H' q => SlR H' q 1 (iRows (compact l)) ∧ (∀ b o z m cap, q = .sl (some (b, o)) z m cap → F b) ∧ Keep F H H' := by
  have hcl := compact_length_le l
  unfold Fn.slices_Compact_int_int
  rcases h.turn (l' := compact l ++ List.replicate (l.length - (compact l).length) 0) hw (by rw [List.length_append, List.length_replicate]; omega) with ⟨rfl, rfl⟩ | ⟨b, cap, H', rfl, h1, h2, h3, h4, _⟩
  · exact runT_told (v := .one (.sl none 0 0 (some 0))) (H' := H) rfl rfl (AC.sl none 0 0 (some 0), ()) rfl ⟨h.slr, fun b o z m cap e => (by cases e), Keep.refl _ _⟩
  · have hF : F b := by
      rcases h.ex with ⟨e, _⟩ | ⟨b', _, _, _, _, e, _, _, _, h5, _⟩
      · cases e
      · have e2 : b = b' := congrArg (fun c => match c with | AC.sl (some p) _ _ _ => p.1 | _ => 0) e
        rw [e2]; exact h5
    by_cases h0 : l.length = 0
    · have hl0 := List.eq_nil_of_length_eq_zero h0
      subst hl0
      exact runT_told (v := .one (.sl (some (b, 0)) 1 0 cap)) (H' := H) rfl rfl (AC.sl (some (b, 0)) 1 0 cap, ()) rfl ⟨h.slr, fun b' o z m cap' e => (by cases e; exact hF), Keep.refl _ _⟩
    · refine runT_told (v := .one (.sl (some (b, 0)) 1 (compact l).length cap)) (H' := H') rfl ?_ (AC.sl (some (b, 0)) 1 (compact l).length cap, ()) rfl ⟨?_, fun b' o z m cap' e => (by cases e; exact hF), h4⟩
      · show compactB H [.one (.sl (some (b, 0)) 1 l.length cap)] = _
        simp only [compactB, if_neg h0, if_neg (show ¬ l.length ≥ 4611686018427387904 by omega), h1, Option.bind_some, intsOf_map, h2, Option.map_some]
      · have := slr_take h3.slr hcl
        have e : (iRows (compact l ++ List.replicate (l.length - (compact l).length) 0)).take (compact l).length = iRows (compact l) := by
          unfold iRows
          rw [List.map_append, List.take_append_of_le_length (by rw [List.length_map]; exact Nat.le_refl _), List.take_of_length_le (by rw [List.length_map]; exact Nat.le_refl _)]
        rwa [e] at this
end Go.Proofs.Ytanaaabejeeakaa
end
section
namespace Go.AI
def updAll (t : Env) : List (Tmp × AV) → Env
  | [] => t
  | (p, a) :: r => updAll (upd t p a) r
theorem setAll_TR : ∀ {l : List (Tmp × AV)} {T : List AV} {t : Env}, TR T t → (∀ q ∈ l, q.1 < T.length) → TR (setAll T l) (updAll t l)
  | [], T, t, h, _ => h
  | (p, a) :: l, T, t, h, hl => by
    simp only [setAll, updAll]
    exact setAll_TR (h.set (hl _ (List.mem_cons_self ..)) a) fun q hq => by rw [List.length_set]; exact hl q (List.mem_cons_of_mem _ hq)
theorem setAll_len : ∀ (l : List (Tmp × AV)) (T : List AV), (setAll T l).length = T.length
  | [], _ => rfl
  | (p, a) :: l, T => by simp only [setAll]; rw [setAll_len l, List.length_set]
theorem roundE_of {P : Program} [BaseC P] {l : Nat} {args : List AV} {H : AHeap} {st0 : Nat} {pend0 : Ex} {T : List AV} {ps : Array Tmp} {ca cb : Code} {tblA tblB : List (Nat × List (Nat × Nat))} {s1 s3 : St} {e : Ex} {p1 : Ex} {T1 : List AV} {ps1 : Array Tmp} {a1 b1 : Code} {st4 : Nat} {p4 : Ex} {T4 : List AV} {ps4 : Array Tmp} {a4 b4 : Code}
    (hB : BaseC.has P (P.funcs.size + l) = false) (hl : H.get l = some (.loop st0 pend0 T ps ca cb)) (hlen : args.length = ps.size) (h1 : slimOk tblA ca = true) (e1 : execS P (callE P) (slim tblA ca) (setAll T (ps.toList.zip args), H) = some (.normal, s1)) (g1 : s1.2.get l = some (.loop 0 p1 T1 ps1 a1 b1))
    (h2 : slimOk tblB cb = true) (e2 : execS P (callE P) (slim tblB cb) (s1.1, s1.2.set l (.loop 1 p1 T1 ps1 a1 b1)) = some (e, s3)) (g3 : s3.2.get l = some (.loop st4 p4 T4 ps4 a4 b4)) :
    callE P (P.funcs.size + l) args H = some (.one (.bool (decide (e = .normal))), s3.2.set l (.loop (if e = .normal then 0 else 2) e T4 ps4 a4 b4)) := by
  obtain ⟨N1, hN1⟩ := execS_late h1 e1
  obtain ⟨N2, hN2⟩ := execS_late h2 e2
  refine callE_some.2 ⟨max N1 N2 + 1, ?_⟩
  unfold callA
  rw [hB, if_neg (by simp), Array.getElem?_eq_none (by omega)]
  simp only
  rw [if_pos (by omega), show P.funcs.size + l - P.funcs.size = l from by omega]
  unfold roundA
  rw [hl]
  simp only
  rw [if_pos hlen, hN1 (max N1 N2) (by omega)]
  simp only
  rw [g1]
  simp only
  rw [hN2 (max N1 N2) (by omega)]
  simp only
  rw [g3]
theorem round_wp {P : Program} [BaseC P] {eqs : List (TypeId × Nat)} (hf : Facts P eqs) {l N : Nat} {args : List AV} {H : AHeap} {st0 : Nat} {pend0 : Ex} {T : List AV} {t : Env} {ps : Array Tmp} {ca cb : Code} {ra rb : RC} (tblA tblB : List (Nat × List (Nat × Nat))) {K : AV → AHeap → Prop}
    (hB : BaseC.has P (P.funcs.size + l) = false) (hl : H.get l = some (.loop st0 pend0 T ps ca cb)) (hT : TR T t) (hN : T.length = N) (hps : ∀ p ∈ ps.toList, p < N) (hlen : args.length = ps.size) (h1 : slimOk tblA ca = true) (h2 : resC P eqs N (slim tblA ca) = some ra) (h3 : slimOk tblB cb = true) (h4 : resC P eqs N (slim tblB cb) = some rb)
    (k : wpC P ra (updAll t (ps.toList.zip args)) H fun e t1 H1 => e = .normal ∧ ∃ p1 T1 ps1 a1 b1, H1.get l = some (.loop 0 p1 T1 ps1 a1 b1) ∧ wpC P rb t1 (H1.set l (.loop 1 p1 T1 ps1 a1 b1)) fun e2 _ H2 => ∃ st4 p4 T4 ps4 a4 b4, H2.get l = some (.loop st4 p4 T4 ps4 a4 b4) ∧ K (.one (.bool (decide (e2 = .normal)))) (H2.set l (.loop (if e2 = .normal then 0 else 2) e2 T4 ps4 a4 b4))) :
    Run P (P.funcs.size + l) args H K := by
  have hT1 := setAll_TR hT (l := ps.toList.zip args) fun q hq => by rw [hN]; exact hps _ (List.of_mem_zip hq).1
  obtain ⟨e, tl', t', H', e1, a1, a2, rfl, p1, T1, ps1, ca1, cb1, g1, k2⟩ := wpC_sound hf hT1 (by rw [setAll_len, hN]) h2 k
  obtain ⟨e2, tl2, t2, H2, f1, b1, b2, st4, p4, T4, ps4, a4, b4, g4, hK⟩ := wpC_sound hf a1 a2 h4 k2
  exact ⟨_, _, roundE_of hB hl hlen h1 e1 g1 h3 f1 g4, hK⟩
structure LS where
  (T : List AV) (ps : Array Tmp) (a b : Code)
def LoopIs (H : AHeap) (l st : Nat) (e : Ex) (s : LS) : Prop := H.get l = some (.loop st e s.T s.ps s.a s.b)
theorem LoopIs.keep {S : Nat → Prop} {H H' : AHeap} {l st : Nat} {e : Ex} {s : LS} (h : LoopIs H l st e s) (k : Keep S H H') (hn : ¬ S l) : LoopIs H' l st e s := k.getS h hn
theorem LoopIs.kp {H H' : AHeap} {l st : Nat} {e : Ex} {s : LS} (h : LoopIs H l st e s) (k : Kp H H') : LoopIs H' l st e s := h.keep k id
theorem LoopIs.lt {H : AHeap} {l st : Nat} {e : Ex} {s : LS} (h : LoopIs H l st e s) : l < H.size := AHeap.get_lt h
def YieldT (P : Program) [BaseC P] (tys : List CT) (mk : Tup tys → List AV) (s : LS) (l : Nat) (R : Tup tys → (Ex → AHeap → Prop) → AHeap → Prop) : Prop :=
  ∀ (x : Tup tys) (e0 : Ex) (H : AHeap) (K : Bool → AHeap → Prop), LoopIs H l 0 e0 s →
    (∀ H1, Keep (fun y => y = l) H H1 → H1.size = H.size → LoopIs H1 l 1 e0 s → R x (fun e H2 => ∃ st e4, LoopIs H2 l st e4 s ∧ ∀ H3, Keep (fun y => y = l) H2 H3 → H3.size = H2.size → LoopIs H3 l (if e = .normal then 0 else 2) e s → K (decide (e = .normal)) H3) H1) →
    RunT P [(false, [.bool])] (P.funcs.size + l) (mk x) H fun H' b => K b H'
def RangeT (P : Program) [BaseC P] (tys : List CT) (mk : Tup tys → List AV) (c : AC) (H : AHeap) (R : Tup tys → (Ex → AHeap → Prop) → AHeap → Prop) (Kr : Ex → AHeap → Prop) : Prop :=
  ∃ g first caps, c = .fn g first caps ∧ g < P.funcs.size ∧ ∀ s : LS, YieldT P tys mk s H.size R → ∀ H0, Kp H H0 → H0.size = H.size + 1 → LoopIs H0 H.size 0 .normal s →
    Run P g (first.map (fun a => .one (.ptr (some a))) ++ [.one (.yield H.size)] ++ caps.map (fun a => .one (.ptr (some a)))) H0 fun _ H' => ∃ st e, LoopIs H' H.size st e s ∧ st ≠ 1 ∧ ∀ H3, Keep (fun y => y = H.size) H' H3 → H3.size = H'.size → Kr e H3
theorem Kp.pushLoop (H : AHeap) (st : Nat) (e : Ex) (T : List AV) (ps : Array Tmp) (a b : Code) : Kp H (H.push (.loop st e T ps a b)) := by
  refine ⟨by simp, fun b hb _ => by rw [AHeap.get_push, if_neg (by omega)], fun b hb _ => rfl, ⟨fun hw x e' g st ro cs' hx => ?_, fun hw x e' g st ro cs' hx => ?_⟩, fun x e' g st ro cs' hx hg _ => ?_⟩
  · rw [AHeap.get_push] at hx
    split at hx
    · cases hx
    · exact hw _ _ _ _ _ _ hx
  · refine hw x e' g st ro cs' ?_
    have := AHeap.get_lt hx
    rw [AHeap.get_push, if_neg (by omega)]
    exact hx
  · rw [AHeap.get_push] at hx
    split at hx
    · cases hx
    · exact ⟨_, _, _, _, hx⟩
theorem c_range {P : Program} [BaseC P] {eqs : List (TypeId × Nat)} (hf : Facts P eqs) (hB : ∀ f, P.funcs.size ≤ f → BaseC.has P f = false) {tys : List CT} {mk : Tup tys → List AV} {c : AC} {t : Env} {N : Nat} {ps : Array Tmp} {ca cb : Code} {ra rb : RC} (tblA tblB : List (Nat × List (Nat × Nat))) {H : AHeap} {R : Tup tys → (Ex → AHeap → Prop) → AHeap → Prop} {Kr : Ex → AHeap → Prop} {K : Ex → Env → AHeap → Prop} {f : RV}
    (hev : evR t f = .one c) (hps : ∀ p ∈ ps.toList, p < N) (hlen : ∀ x, (mk x).length = ps.size) (h1 : slimOk tblA ca = true) (h2 : resC P eqs N (slim tblA ca) = some ra) (h3 : slimOk tblB cb = true) (h4 : resC P eqs N (slim tblB cb) = some rb)
    (hA : ∀ x H (J : Env → AHeap → Prop), J (updAll t (ps.toList.zip (mk x))) H → ∃ t1, (∀ J : Env → AHeap → Prop, J t1 H → wpC P ra (updAll t (ps.toList.zip (mk x))) H fun e t2 H2 => e = .normal ∧ J t2 H2) ∧ ∀ (KR : Ex → AHeap → Prop) (Kt : Ex → Env → AHeap → Prop) H, (∀ e t H, KR e H → Kt e t H) → R x KR H → wpC P rb t1 H Kt)
    (hK : ∀ e H, Kr e H → K e t H) : RangeT P tys mk c H R Kr → wpC P (.rangeF f N ps ca cb) t H K := by
  rintro ⟨g, first, caps, rfl, hg, q⟩
  simp only [wpC, hev]
  refine ⟨g, first, caps, rfl, hg, fun T hN hT => ?_⟩
  have hget : LoopIs (H.push (.loop 0 .normal T ps ca cb)) H.size 0 .normal ⟨T, ps, ca, cb⟩ := by
    unfold LoopIs
    rw [AHeap.get_push, if_pos rfl]
  have hY : YieldT P tys mk ⟨T, ps, ca, cb⟩ H.size R := by
    intro x e0 H1 K1 hl hr
    have hl' : H1.get H.size = some (.loop 0 e0 T ps ca cb) := hl
    refine round_wp hf tblA tblB (hB _ (by omega)) hl' hT hN hps (hlen x) h1 h2 h3 h4 ?_
    obtain ⟨t1, a1, a2⟩ := hA x H1 (fun _ _ => True) trivial
    refine a1 _ ⟨_, _, _, _, _, hl', ?_⟩
    have k1 : Keep (fun y => y = H.size) H1 (H1.set H.size (.loop 1 e0 T ps ca cb)) := Keep.set hl' trivial
    have hq := hr _ k1 rfl (by unfold LoopIs; rw [AHeap.get_set, if_pos ⟨rfl, AHeap.get_lt hl'⟩])
    refine a2 _ _ _ ?_ hq
    rintro e2 t2 H2 ⟨st, e4, hl2, hk⟩
    have hl2' : H2.get H.size = some (.loop st e4 T ps ca cb) := hl2
    refine ⟨_, _, _, _, _, _, hl2', ?_⟩
    refine ⟨(decide (e2 = .normal), ()), rfl, hk _ (Keep.set hl2' trivial) rfl ?_⟩
    unfold LoopIs
    rw [AHeap.get_set, if_pos ⟨rfl, AHeap.get_lt hl2'⟩]
  obtain ⟨v, H', hrun, st, e, hl, hst, hk⟩ := q ⟨T, ps, ca, cb⟩ hY _ (Kp.pushLoop _ _ _ _ _ _ _) (by simp) hget
  have hl' : H'.get H.size = some (.loop st e T ps ca cb) := hl
  exact ⟨v, H', hrun, st, e, _, _, _, _, hl', hst, hK _ _ (hk _ (Keep.set hl' trivial) rfl)⟩
end Go.AI
end
section
namespace Go.Proofs.Ytanaaabejeeakaa
open Go.AI Go.Lib
noncomputable def apR : Array Tmp × Code × Code := match Try.f101.body with
  | some (.seq _ (.seq (.seq _ (.block _ (.rangeFunc _ ps a b))) _)) => (ps, a, b)
  | _ => (#[], .skip, .skip)
noncomputable def ap.ca : RC := .ops [.put 5 (.mov (.tm 7))]
noncomputable def ap.cb : RC := .block 1 (.ops [.put 8 (.ld false [.ac] (.tm 2)), .put 9 (.mov (.tm 5)), .put 10 (.blds 3 1 1 [(.int .i64 0)] [(0, 1, (.tm 9))]), .put 11 (.app 3 1 8 (.tm 8) (.tm 10)), .run (.st 1 (.tm 2) (.tm 11))])
noncomputable def ap.c : RC := .seq (.ops [.put 2 (.box 53 (.tm 0)), .put 4 (.mov (.ct (.one (.sl none 0 0 (some 0)))))]) (.seq (.seq (.ops [.put 6 (.mov (.tm 1))]) (.block 0 (.rangeF (.tm 6) 13 apR.1 apR.2.1 apR.2.2))) (.seq (.ops [.put 12 (.ld false [.ac] (.tm 2)), .put 4 (.mov (.tm 12))]) .ret))
theorem ap.slimOk : AI.slimOk [] (Try.f101.body.getD .skip) = true := by kernel_rfl
theorem ap.resC : AI.resC Try.prog aggs Try.f101.ntmps (slim [] (Try.f101.body.getD .skip)) = some ap.c := by kernel_rfl
theorem ap.resR : AI.resR Try.prog Try.f101.results.toList = some [.tm 4] := by kernel_rfl
theorem ap.bodyEq : Try.f101.body = some (Try.f101.body.getD .skip) := by kernel_rfl
theorem ap.aOk : AI.slimOk [] apR.2.1 = true := by kernel_rfl
theorem ap.aRes : AI.resC Try.prog aggs 13 (slim [] apR.2.1) = some ap.ca := by kernel_rfl
theorem ap.bOk : AI.slimOk [] apR.2.2 = true := by kernel_rfl
theorem ap.bRes : AI.resC Try.prog aggs 13 (slim [] apR.2.2) = some ap.cb := by kernel_rfl
theorem ap.ps : apR.1 = #[7] := by kernel_rfl
theorem size_try : Try.prog.funcs.size = 148 := by kernel_rfl
theorem told_none (f : Nat) (h : Try.prog.funcs.size ≤ f) : BaseC.has Try.prog f = false := by
  rw [size_try] at h
  show (Nat.beq f 87 || Nat.beq f 69) = false
  rw [Bool.or_eq_false_iff]
  constructor <;> (cases hb : Nat.beq f _ with
    | false => rfl
    | true => have := Nat.eq_of_beq_eq_true hb; omega)
def ap.R (p : AC) (x : Tup [.int .i64]) (KR : Ex → AHeap → Prop) (H : AHeap) : Prop :=
  Ld [.ac] H p fun (v_1 : AC) =>
  NewS 3 1 1 [(.int .i64 x.1)] H fun p_2 H_3 =>
  App 3 1 8 v_1 p_2 H_3 fun s_4 H_5 =>
  Sto H_5 p [s_4] fun H_6 =>
  KR .normal H_6
def ap.W (a0 a1 : AC) (H : AHeap) (Q : AHeap → AC → Prop) : Prop :=
  New 53 [a0] H fun p_1 H_2 =>
  RangeT Try.prog [.int .i64] (fun x => [.one (.int .i64 x.1)]) a1 H_2 (ap.R p_1) fun e H_3 =>
  e = .normal ∧ Ld [.ac] H_3 p_1 fun (v_4 : AC) =>
  Q H_3 v_4
theorem ap.rnd {p_1 : AC} {t : Env} (h2 : t 2 = .one p_1) (x : Tup [.int .i64]) (KR : Ex → AHeap → Prop) (Kt : Ex → Env → AHeap → Prop) (H : AHeap) (hK : ∀ e t H, KR e H → Kt e t H) :
    ap.R p_1 x KR H → wpC Try.prog ap.cb (upd (upd t 7 (.one (.int .i64 x.1))) 5 (.one (.int .i64 x.1))) H Kt := by
  refine c_blk (c_ops (s_cons (w_put (o_ld1 h2 fun v_1 => ?_))))
  refine s_cons (w_put (o_mov rfl (s_cons (w_put (o_blds rfl fun p_2 H_3 => ?_)))))
  refine s_cons (w_put (o_app rfl rfl fun s_4 H_5 => ?_))
  exact s_cons (w_run (o_st h2 rfl rfl fun H_6 => s_nil (k_blk (hK _ _ _))))
theorem ap.rng {p_1 a1 : AC} {t : Env} {H : AHeap} {K : Ex → Env → AHeap → Prop} {Kr : Ex → AHeap → Prop} (h2 : t 2 = .one p_1) (h6 : t 6 = .one a1) (hK : ∀ e H, Kr e H → K e t H) :
    RangeT Try.prog [.int .i64] (fun x => [.one (.int .i64 x.1)]) a1 H (ap.R p_1) Kr → wpC Try.prog (.rangeF (.tm 6) 13 apR.1 apR.2.1 apR.2.2) t H K :=
  c_range aggs_ok told_none [] [] h6 (by rw [ap.ps]; intro p hp; simp at hp; rw [hp]; decide) (fun x => by rw [ap.ps]; rfl) ap.aOk ap.aRes ap.bOk ap.bRes
    (by
      rw [ap.ps]
      intro x H3 J _
      exact ⟨upd (upd t 7 (.one (.int .i64 x.1))) 5 (.one (.int .i64 x.1)), fun J hJ => c_ops (s_cons (w_put (o_mov rfl (s_nil fun h => ⟨rfl, h⟩)))) hJ, ap.rnd h2 x⟩)
    hK
theorem ap.ok {a0 a1 : AC} {H : AHeap} (Q : AHeap → AC → Prop) : ap.W a0 a1 H Q → wpF Try.prog ap.c [.tm 4] (envOf [(.one a0), (.one a1)]) H (fun v H => ∃ xs : Tup (flat [(false, [.ac])]), v = joinR (splitP [(false, [.ac])] (cellsOf (flat [(false, [.ac])]) xs)) ∧ app (flat [(false, [.ac])]) (Q H) xs) := by
  refine c_seq (c_ops (s_cons (w_put (o_box rfl fun p_1 H_2 => ?_))))
  refine s_cons (w_put (o_mov rfl (s_nil (k_seq ?_))))
  refine c_seq (c_seq (c_ops (s_cons (w_put (o_mov rfl (s_nil (k_seq ?_)))))))
  refine c_blk (ap.rng rfl rfl ?_)
  rintro e H3 ⟨rfl, h⟩
  refine k_blk (k_seq ?_) h
  refine c_seq (c_ops (s_cons (w_put (o_ld1 rfl fun v_4 => ?_))))
  exact s_cons (w_put (o_mov rfl (s_nil (k_seq (c_ret (k_topR (r_one rfl (r_nil fun h => ⟨(v_4, ()), rfl, h⟩))))))))
theorem ap.run {a0 a1 : AC} {H : AHeap} {Q : AHeap → AC → Prop} (h : ap.W a0 a1 H Q) : RunT Try.prog [(false, [.ac])] 101 [(.one a0), (.one a1)] H Q := by
  unfold RunT
  exact run_of aggs_ok [] rfl Try.func101 ap.bodyEq ap.slimOk ap.resC ap.resR (Nat.le_of_ble_eq_true (by kernel_rfl)) (ap.ok Q h)
end Go.Proofs.Ytanaaabejeeakaa
end
section
namespace Go.Proofs.Ytanaaabejeeakaa
open Go.AI Go.Lib
theorem lt93 : 93 < Try.prog.funcs.size := (Array.getElem?_eq_some_iff.1 Try.func93).1
theorem append_c {bx : Nat} {s : AC} {l : List Int} {H : AHeap} (hb : Own H bx [s]) (hs : SlR H s 1 (iRows l)) (hl : l.length < 4611686018427387904) (hl2 : l.length * 8 + 8 ≤ 140737488355328) :
    RunT Try.prog [(false, [.ac])] 101 [(.one (.sl none 0 0 (some 0))), (.one (.fn 93 [] [(bx, 0)]))] H fun H' q => (∃ F, OwnS H' q 1 F (iRows l) ∧ ∀ y, F y → H.size ≤ y) ∧ Kp H H' := by
  have hll := iRows_len l
  refine ap.run ?_
  unfold ap.W
  refine New.own fun b1 H1 hb1 hs1 o1 k1 => ?_
  refine ⟨93, [], [(bx, 0)], rfl, lt93, fun sl hY H0 k0 hs0 hl0 => ?_⟩
  have kk0 := k1.trans k0
  suffices hrun : Fn.Z20 (.yield H1.size) (.ptr (some (bx, 0))) H0 fun H' => ∃ st e, LoopIs H' H1.size st e sl ∧ st ≠ 1 ∧ ∀ H3, Keep (fun y => y = H1.size) H' H3 → H3.size = H'.size → (e = .normal ∧ Ld [.ac] H3 (.ptr (some (b1, 0))) fun (v : AC) => (∃ F, OwnS H3 v 1 F (iRows l) ∧ ∀ y, F y → H.size ≤ y) ∧ Kp H H3) by
    refine Run.mono ?_ hrun
    rintro v H' ⟨_, _, h⟩
    exact h
  refine Z20.run ?_
  unfold Z20.W
  refine Ld.oc (hb.kp kk0) rfl (LenS.of (hs.kp kk0) ?_)
  rw [hll]
  unfold Z20.l3
  refine LoopT.rule (fun m s0 H2 => ∃ (i : Nat) (out : AC) (F : Nat → Prop), i ≤ l.length ∧ m = l.length - i ∧ s0 = (.yield H1.size, s, (l.length : Int), (i : Int), ()) ∧ Kp H H2 ∧ LoopIs H2 H1.size 0 .normal sl ∧ Own H2 b1 [out] ∧ OwnS H2 out 1 F (iRows (l.take i)) ∧ ∀ y, F y → H1.size < y) l.length
    ⟨0, _, fun _ => False, by omega, by omega, rfl, kk0, hl0, o1.kp k0, by simpa [iRows] using OwnS.nil H0 1, fun y h => h.elim⟩ ?_
  rintro m s0 H2 back ⟨i, out, F, hi, rfl, rfl, k2, hlp, ob, ho, hF⟩ hback
  simp only [Z20.b3]
  refine CondB.dec (fun hlt => ?_) fun hge => ?_
  · have hi' : i < l.length := by omega
    obtain ⟨v, hv⟩ : ∃ b, l[i]? = some b := ⟨_, List.getElem?_eq_getElem hi'⟩
    refine IA.of (r := [AC.int .i64 v]) (hs.kp k2) (by omega) (by rw [Int.toNat_natCast]; unfold iRows; rw [List.getElem?_map, hv]; rfl) fun b o hld => Ld.a1 hld v rfl rfl ?_
    refine CVT.yield (hY (v, ()) .normal H2 _ hlp fun H3 k3 hs3 hl3 => ?_)
    have ob3 := ob.keep k3 (show ¬ b1 = H1.size by omega)
    have ho3 := ho.keep k3 fun y e h => by have := hF y h; have e' : y = H1.size := e; omega
    have hz2 := k2.size
    have hlt2 := hlp.lt
    have hb2 := ob.lt
    unfold ap.R
    refine Ld.oc ob3 rfl (NewS.own fun b4 H4 hb4 hs4 o4 k4 => ?_)
    have hlen : (iRows (l.take i)).length = i := by rw [iRows_len, List.length_take]; omega
    refine App.own (ho3.kp k4) (r := [AC.int .i64 v]) ⟨b4, _, rfl, o4.all⟩ rfl (by rw [hlen]; omega) (by rw [hlen]; omega) fun out' H5 ho5 k5 hs5 => ?_
    have hFn : ∀ y, F y → y ≠ b1 ∧ y ≠ H1.size := fun y h => by have := hF y h; omega
    refine Sto.own ((ob3.kp k4).keep k5 fun h => (hFn _ h).1 rfl) (Nat.le_refl 1) fun H6 o6 k6 hs6 => ?_
    have hlp6 : LoopIs H6 H1.size 1 .normal sl := ((hl3.kp k4).keep k5 fun h => (hFn _ h).2 rfl).keep k6 (show ¬ H1.size = b1 by omega)
    refine ⟨_, _, hlp6, fun H7 k7 hs7 hl7 => CondB.neg rfl ?_⟩
    have hk : Kp H H7 := ((((k2.fresh k3 fun y e => by have e' : y = H1.size := e; omega).trans k4).fresh k5 fun y h => by have := hF y h; omega).fresh k6 fun y e => by have e' : y = b1 := e; omega).fresh k7 fun y e => by have e' : y = H1.size := e; omega
    refine hback (l.length - (i + 1)) _ _ (by omega) ⟨i + 1, out', fun y => F y ∨ y = H4.size, by omega, rfl, ?_, hk, hl7, o6.keep k7 (show ¬ b1 = H1.size by omega), ?_, fun y h => h.elim (hF y) fun e => by omega⟩
    · exact tc rfl (tc rfl (tc rfl (tc ((wrap64 (by omega) (by omega)).trans (by omega)) rfl)))
    · have e : iRows (l.take (i + 1)) = iRows (l.take i) ++ [[AC.int .i64 v]] := by
        unfold iRows
        rw [List.take_add_one, List.map_append, hv]
        rfl
      rw [e]
      have h6 := ho5.keep k6 fun y e h => by
        have e' : y = b1 := e
        rcases h with h | h
        · exact (hFn y h).1 e'
        · omega
      exact h6.keep k7 fun y e h => by
        have e' : y = H1.size := e
        rcases h with h | h
        · exact (hFn y h).2 e'
        · omega
  · have hil : i = l.length := by omega
    subst hil
    rw [List.take_of_length_le (Nat.le_refl _)] at ho
    refine ⟨0, .normal, hlp, by omega, fun H3 k3 hs3 => ⟨rfl, ?_⟩⟩
    have hz2 := k2.size
    refine Ld.oc (ob.keep k3 (show ¬ b1 = H1.size by omega)) rfl ⟨⟨F, ho.keep k3 fun y e h => by have := hF y h; have e' : y = H1.size := e; omega, fun y h => by have := hF y h; omega⟩, k2.fresh k3 fun y e => by have e' : y = H1.size := e; omega⟩
theorem Sorted_c {bx : Nat} {s : AC} {l : List Int} {H : AHeap} (hb : Own H bx [s]) (hs : SlR H s 1 (iRows l)) (hw : GW H) (hl : l.length < 4611686018427387904) (hl2 : l.length * 8 + 8 ≤ 140737488355328) :
    Fn.Z18 (.fn 93 [] [(bx, 0)]) H fun H' q => (∃ F, OwnS H' q 1 F (iRows (sortI l)) ∧ ∀ y, F y → H.size ≤ y) ∧ Kp H H' := by
  refine Z18.run ?_
  unfold Z18.W
  refine RunT.imp ?_ (Z12.run (Q := fun H' q => (∃ F, OwnS H' q 1 F (iRows l) ∧ ∀ y, F y → H.size ≤ y) ∧ Kp H H') ?_)
  · rintro H1 (q : AC) ⟨⟨F, ho, hF⟩, k1⟩
    refine RunT.imp ?_ (Sort_o ho (k1.gw.1 hw) hl)
    rintro H2 ⟨ho2, k2⟩
    exact ⟨⟨F, ho2, hF⟩, k1.fresh k2 hF⟩
  · unfold Z12.W
    exact append_c hb hs hl hl2
end Go.Proofs.Ytanaaabejeeakaa
end
section
namespace Go.AI
open DT
def fixT (v : Nat) (b : Bool) : DT → DT
  | leaf c => leaf c
  | nd w l h => if v < w then nd w l h else if w = v then (if b then h else l) else DT.mk w (fixT v b l) (fixT v b h)
def setA (ρ : Nat → Bool) (v : Nat) (b : Bool) : Nat → Bool := fun w => if w = v then b else ρ w
theorem eval_above {v : Nat} {b : Bool} {ρ : Nat → Bool} : ∀ x : DT, x.RO → v < x.top → x.eval (setA ρ v b) = x.eval ρ
  | leaf _, _, _ => rfl
  | nd w l h, ⟨_, _, t1, t2, r1, r2⟩, ht => by
    simp only [top] at ht
    have : setA ρ v b w = ρ w := by unfold setA; rw [if_neg (by omega)]
    simp only [eval]
    rw [this, eval_above l r1 (by omega), eval_above h r2 (by omega)]
theorem fixT_spec {v : Nat} {b : Bool} : ∀ x : DT, x.RO → (fixT v b x).RO ∧ x.top ≤ (fixT v b x).top ∧ ∀ ρ, (fixT v b x).eval ρ = x.eval (setA ρ v b)
  | leaf c, h => ⟨trivial, Nat.le_refl _, fun _ => rfl⟩
  | nd w l h, hx => by
    have hx0 := hx
    obtain ⟨hw, hne, t1, t2, r1, r2⟩ := hx
    simp only [fixT]
    split
    · next hlt =>
      exact ⟨hx0, Nat.le_refl _, fun ρ => (eval_above _ hx0 (show v < w from hlt)).symm⟩
    · next hge =>
      split
      · next he =>
        subst he
        have hs : ∀ ρ, setA ρ w b w = b := fun ρ => by unfold setA; rw [if_pos rfl]
        cases b with
        | true =>
          refine ⟨r2, show w ≤ h.top by omega, fun ρ => ?_⟩
          simp only [if_true, eval, hs]
          exact (eval_above h r2 t2).symm
        | false =>
          refine ⟨r1, show w ≤ l.top by omega, fun ρ => ?_⟩
          simp only [Bool.false_eq_true, if_false, eval, hs]
          exact (eval_above l r1 t1).symm
      · next hne2 =>
        obtain ⟨a1, a2, a3⟩ := fixT_spec (v := v) (b := b) l r1
        obtain ⟨b1, b2, b3⟩ := fixT_spec (v := v) (b := b) h r2
        refine ⟨mk_RO hw (by omega) (by omega) a1 b1, show w ≤ _ from mk_top (by omega), fun ρ => ?_⟩
        rw [mk_eval, a3, b3]
        have : setA ρ v b w = ρ w := by unfold setA; rw [if_neg hne2]
        simp only [eval, this]
end Go.AI
end
section
namespace Go.Proofs.Ytanaaabejeeakaa
open Go.AI Go.AI.DT
theorem lt89 : 89 < Try.prog.funcs.size := (Array.getElem?_eq_some_iff.1 Try.func89).1
structure XP where
  (mb vb nb sb bb nm : Nat)
def XP.loc (p : XP) (y : Nat) : Prop := y = p.mb ∨ y = p.vb ∨ y = p.nb ∨ y = p.sb ∨ y = p.bb ∨ y = p.nm
def FixOk (v : Nat) (b : Bool) (ts : List DT) (es : List (List Int × Int)) : Prop := ∀ k n, findI k es = some n → ∃ y, In ts y ∧ k = [ref ts y] ∧ In ts (fixT v b y) ∧ n = ref ts (fixT v b y)
theorem FixOk.mono {v : Nat} {b : Bool} {ts ts' : List DT} {es : List (List Int × Int)} (h : FixOk v b ts es) (hp : ts <+: ts') : FixOk v b ts' es := by
  intro k n hk
  obtain ⟨y, h1, h2, h3, h4⟩ := h k n hk
  exact ⟨y, h1.mono hp, by rw [h2, ref_mono h1 hp], h3.mono hp, by rw [h4, ref_mono h3 hp]⟩
theorem FixOk.set {v : Nat} {b : Bool} {ts : List DT} {es : List (List Int × Int)} (h : FixOk v b ts es) {y : DT} (h1 : In ts y) (h3 : In ts (fixT v b y)) : FixOk v b ts (setI [ref ts y] (ref ts (fixT v b y)) es) := by
  intro k n hk
  rw [findI_set] at hk
  split at hk
  · next e => simp only [Option.some.injEq] at hk; exact ⟨y, h1, e.symm, h3, hk.symm⟩
  · exact h k n hk
structure XS (H : AHeap) (m : AC) (F : Nat → Prop) (ts : List DT) (p : XP) (v : Nat) (b : Bool) (es : List (List Int × Int)) : Prop where
  mgr : Mgr H m F ts
  o1 : Own H p.mb [m]
  o2 : Own H p.vb [.int .i64 (v : Int)]
  o3 : Own H p.nb [.map (some p.nm)]
  o4 : Own H p.sb [.fn 89 [] [(p.mb, 0), (p.vb, 0), (p.nb, 0), (p.sb, 0), (p.bb, 0)]]
  o5 : Own H p.bb [.int .i64 (if b then 1 else 0)]
  mp : MapI H p.nm none es
  eok : FixOk v b ts es
  d : ∀ y, F y → ¬ p.loc y
  ne : p.nm ≠ p.mb ∧ p.nm ≠ p.vb ∧ p.nm ≠ p.nb ∧ p.nm ≠ p.sb ∧ p.nm ≠ p.bb
theorem XS.lt {H : AHeap} {m : AC} {F : Nat → Prop} {ts : List DT} {p : XP} {v : Nat} {b : Bool} {es : List (List Int × Int)} (h : XS H m F ts p v b es) : ∀ y, p.loc y → y < H.size := by
  rintro y (e | e | e | e | e | e) <;> rw [e]
  · exact h.o1.lt
  · exact h.o2.lt
  · exact h.o3.lt
  · exact h.o4.lt
  · exact h.o5.lt
  · exact h.mp.lt
theorem XS.kp {H H' : AHeap} {m : AC} {F : Nat → Prop} {ts : List DT} {p : XP} {v : Nat} {b : Bool} {es : List (List Int × Int)} (h : XS H m F ts p v b es) (k : Kp H H') : XS H' m F ts p v b es :=
  ⟨h.mgr.kp k, h.o1.kp k, h.o2.kp k, h.o3.kp k, h.o4.kp k, h.o5.kp k, h.mp.kp k, h.eok, h.d, h.ne⟩
theorem XS.grow {H H' : AHeap} {m : AC} {F F' : Nat → Prop} {ts ts' : List DT} {p : XP} {v n : Nat} {b : Bool} {es : List (List Int × Int)} (h : XS H m F ts p v b es) (a : After H m F ts n H' F' ts') : XS H' m F' ts' p v b es := by
  have hn : ∀ y, p.loc y → ¬ F y := fun y hl hF => h.d y hF hl
  refine ⟨a.mgr, h.o1.keep a.keep (hn _ (.inl rfl)), h.o2.keep a.keep (hn _ (.inr (.inl rfl))), h.o3.keep a.keep (hn _ (.inr (.inr (.inl rfl)))), h.o4.keep a.keep (hn _ (.inr (.inr (.inr (.inl rfl))))), h.o5.keep a.keep (hn _ (.inr (.inr (.inr (.inr (.inl rfl)))))), h.mp.keep a.keep (hn _ (.inr (.inr (.inr (.inr (.inr rfl)))))), h.eok.mono a.pre, fun y hy hl => ?_, h.ne⟩
  rcases a.fresh y hy with hy | hy
  · exact h.d y hy hl
  · have := h.lt y hl; omega
structure XPost (H : AHeap) (m : AC) (F : Nat → Prop) (ts : List DT) (p : XP) (v : Nat) (b : Bool) (n : Nat) (x : DT) (H' : AHeap) (q : Int) : Prop where
  ex : ∃ F' ts' es', XS H' m F' ts' p v b es' ∧ ts <+: ts' ∧ ts'.length ≤ ts.length + n ∧ Keep (fun y => F y ∨ y = p.nm) H H' ∧ (∀ y, F' y → F y ∨ H.size ≤ y) ∧ In ts' (fixT v b x) ∧ q = ref ts' (fixT v b x)
theorem fixed_m {m : AC} {p : XP} {v : Nat} {b : Bool} (hv : v < 16) : ∀ (x : DT) {H : AHeap} {F : Nat → Prop} {ts : List DT} {es : List (List Int × Int)}, In ts x → XS H m F ts p v b es → ts.length + 2 ^ (16 - x.top) ≤ 4294967296 →
    Fn.Z38 (ref ts x) (.ptr (some (p.mb, 0))) (.ptr (some (p.vb, 0))) (.ptr (some (p.nb, 0))) (.ptr (some (p.sb, 0))) (.ptr (some (p.bb, 0))) H fun H' q => XPost H m F ts p v b (2 ^ (16 - x.top) - 1) x H' q := by
  intro x
  induction x with
  | leaf c =>
    intro H F ts es hx hs hlen
    refine Z38.run ?_
    unfold Z38.W
    refine CondB.pos (by rw [decide_eq_true_iff]; exact ref_leaf.2 ⟨c, rfl⟩) ?_
    unfold Z38.p5
    exact CondB.pos rfl ⟨F, ts, es, hs, List.prefix_rfl, by omega, Keep.refl _ _, fun y h => .inl h, hx, rfl⟩
  | nd w l h ihl ihh =>
    intro H F ts es hx hs hlen
    have h0 : 0 ≤ ref ts (nd w l h) := by rw [ref_ge]; omega
    have hg := ref_get hx h0
    have hfin := hs.mgr.fin
    obtain ⟨hinl, hinh, hro⟩ : In ts l ∧ In ts h ∧ (nd w l h).RO := by
      have hxm : nd w l h ∈ ts := hx.elim (fun ⟨b, e⟩ => by cases e) id
      obtain ⟨_, _, _, e0, a1, a2, a3⟩ := hfin.parts _ hxm
      cases e0
      exact ⟨a1, a2, a3⟩
    obtain ⟨hw, hne, t1, t2, r1, r2⟩ := hro
    have tl := top_le l r1
    have th := top_le h r2
    have e16 : 16 - (nd w l h).top = (16 - (w + 1)) + 1 := by simp only [top]; omega
    have hpow : 2 ^ (16 - (nd w l h).top) = 2 ^ (16 - (w + 1)) * 2 := by rw [e16, Nat.pow_succ]
    have hpl : 2 ^ (16 - l.top) ≤ 2 ^ (16 - (w + 1)) := Nat.pow_le_pow_right (by omega) (by omega)
    have hph : 2 ^ (16 - h.top) ≤ 2 ^ (16 - (w + 1)) := Nat.pow_le_pow_right (by omega) (by omega)
    have hp1 : 0 < 2 ^ (16 - (w + 1)) := Nat.two_pow_pos _
    obtain ⟨Z, hZ⟩ : ∃ Z, Z = 2 ^ (16 - (w + 1)) := ⟨_, rfl⟩
    rw [← hZ] at hpow hpl hph hp1
    rw [hpow] at hlen ⊢
    refine Z38.run ?_
    unfold Z38.W
    refine CondB.neg (by rw [decide_eq_false_iff_not]; omega) (Ld.oc hs.o1 rfl (RunT.imp ?_ (top_c hs.mgr hx)))
    rintro H1 (t : Int) ⟨rfl, e1⟩
    obtain rfl : H = H1 := e1.symm
    refine Ld.oi hs.o2 rfl ⟨Same2.mk rfl, ?_⟩
    unfold Z38.p5
    refine CondB.dec (fun hgt => ?_) fun hle => ?_
    · have hlt : v < w := by simp only [top] at hgt; omega
      have e : fixT v b (nd w l h) = nd w l h := by simp only [fixT]; rw [if_pos hlt]
      exact ⟨F, ts, es, hs, List.prefix_rfl, by omega, Keep.refl _ _, fun y h => .inl h, by rw [e]; exact hx, by rw [e]⟩
    have hwv : ¬ v < w := by simp only [top] at hle; omega
    refine Ld.oc hs.o3 rfl (Look.i hs.mp rfl (fun n hf => ?_) fun hf => ?_)
    · obtain ⟨y, g1, g2, g3, g4⟩ := hs.eok _ _ hf
      have : nd w l h = y := ref_inj hx g1 (by simpa using g2)
      subst this
      exact CondB.pos rfl ⟨F, ts, es, hs, List.prefix_rfl, by omega, Keep.refl _ _, fun y h => .inl h, g3, g4⟩
    -- the end: the answer is laid down
    have fin : ∀ (H3 : AHeap) (F3 : Nat → Prop) (ts3 : List DT) (es3 : List (List Int × Int)), XS H3 m F3 ts3 p v b es3 → ts <+: ts3 → ts3.length ≤ ts.length + (Z * 2 - 1) → Keep (fun y => F y ∨ y = p.nm) H H3 → (∀ y, F3 y → F y ∨ H.size ≤ y) → In ts3 (fixT v b (nd w l h)) →
        Z38.p37 (fun H' q => XPost H m F ts p v b (Z * 2 - 1) (nd w l h) H' q) (ref ts (nd w l h)) (.ptr (some (p.nb, 0))) (ref ts3 (fixT v b (nd w l h))) H3 := by
      intro H3 F3 ts3 es3 hs3 hp hl3 k3 fr3 hin
      unfold Z38.p37
      refine Ld.oc hs3.o3 rfl (MSet.i hs3.mp rfl fun H4 mp4 k4 hs4 => ?_)
      have hnF : ∀ y, y = p.nm → ¬ F3 y := fun y e hF => hs3.d y hF (.inr (.inr (.inr (.inr (.inr e)))))
      refine ⟨F3, ts3, _, ⟨hs3.mgr.keep k4 hnF, hs3.o1.keep k4 (fun e => hs3.ne.1 e.symm), hs3.o2.keep k4 (fun e => hs3.ne.2.1 e.symm), hs3.o3.keep k4 (fun e => hs3.ne.2.2.1 e.symm), hs3.o4.keep k4 (fun e => hs3.ne.2.2.2.1 e.symm), hs3.o5.keep k4 (fun e => hs3.ne.2.2.2.2 e.symm), mp4, ?_, hs3.d, hs3.ne⟩, hp, hl3, Keep.trans k3 k4 fun y _ e => .inr e, fr3, hin, rfl⟩
      have := hs3.eok.set (hx.mono hp) hin
      rwa [ref_mono hx hp] at this
    refine CondB.neg rfl (Ld.oc hs.o1 rfl ?_)
    have node : ∀ {k : AC → Prop}, (∀ b o, H.load (b, o) 3 = some (nodeCells (row ts (nd w l h))) → k (.ptr (some (b, o)))) → NN m (FA 0 m fun q => Ld [.ac] H q fun (vv : AC) => IA 3 vv (ref ts (nd w l h)) k) := by
      intro k hk
      obtain ⟨mb, ib, db, Fs, slc, idx, done, hx'⟩ := hs.mgr
      obtain rfl := hx'.m_eq
      exact NN.ptr (FA.mk (Ld.oc hx'.own rfl (IA.of hx'.sl.slr h0 (r := nodeCells (row ts (nd w l h))) (by simp [hg]) fun b o hld => hk b o hld)))
    refine node fun bb o hld => Ld.a3 hld (w : Int) (ref ts l) (ref ts h) rfl rfl ?_
    refine NewSto.own rfl fun b3 H3 hb3 hs3' o3 k3 => FA.mk (Ld.oi o3 rfl (FA.mk (Ld.oi o3 rfl (Ld.oi (hs.o2.kp k3) rfl ?_))))
    have hs3 := hs.kp k3
    have hz3 := k3.size
    have hxlt := hs.lt
    have hFlt := hs.mgr.lt
    refine CondB.dec (fun hlt => ?_) fun hge => ?_
    · have hwv2 : w < v := by omega
      have hfe : fixT v b (nd w l h) = DT.mk w (fixT v b l) (fixT v b h) := by simp only [fixT]; rw [if_neg (by omega), if_neg (by omega)]
      refine Ld.oc hs3.o4 rfl (FA.mk (Ld.oi o3 rfl ?_))
      refine CVT.imp ?_ (CVT.mk lt89 (ihl hinl hs3 (by omega)))
      rintro H5 (q : Int) ⟨F5, ts5, es5, hs5, p5, l5, k5, fr5, in5, rfl⟩
      have hn3 : ¬ (F b3 ∨ b3 = p.nm) := by
        rintro (h | h)
        · have := hFlt b3 h; omega
        · have := hxlt p.nm (.inr (.inr (.inr (.inr (.inr rfl))))); omega
      have o35 := o3.keep k5 hn3
      have hz5 := k5.size
      have o1m := hs5.o1
      refine Ld.oc o1m rfl (FA.mk (Ld.oi o35 rfl (Ld.oc hs5.o4 rfl (FA.mk (Ld.oi o35 rfl ?_)))))
      rw [← ref_mono hinh p5]
      refine CVT.imp ?_ (CVT.mk lt89 (ihh (hinh.mono p5) hs5 (by omega)))
      rintro H6 (q : Int) ⟨F6, ts6, es6, hs6, p6, l6, k6, fr6, in6, rfl⟩
      have o36 : Own H6 b3 [.int .i64 (w : Int), .int .i64 (ref ts l), .int .i64 (ref ts h)] := o35.keep k6 (by
        rintro (h | h)
        · rcases fr5 b3 h with h | h
          · have := hFlt b3 h; omega
          · have := o3.lt; omega
        · have := hxlt p.nm (.inr (.inr (.inr (.inr (.inr rfl))))); omega)
      have in5' := in5.mono p6
      rw [← ref_mono in5 p6]
      have sl := fixT_spec (v := v) (b := b) l r1
      have sh := fixT_spec (v := v) (b := b) h r2
      have hz6 := k6.size
      refine RunT.imp ?_ (node_c hs6.mgr in5' in6 hw (by omega) (by omega) (by omega))
      rintro H7 (q : Int) ⟨F7, ts7, af7, in7, rfl⟩
      refine ⟨Same1.mk ((hs6.o1.cell rfl).trans (o1m.cell rfl).symm), Same1.mk ((o36.cell rfl).trans (o35.cell rfl).symm), ?_⟩
      have hs7 := hs6.grow af7
      have l7 := af7.len
      rw [← hfe] at in7 ⊢
      refine fin H7 F7 ts7 es6 hs7 (p5.trans (p6.trans af7.pre)) (by omega) ?_ ?_ in7
      · have kA : Keep (fun y => F y ∨ y = p.nm) H H5 := Kp.andThen k3 k5
        have kB : Keep (fun y => F y ∨ y = p.nm) H H6 := Keep.trans kA k6 fun y hy e => by
          rcases e with e | e
          · rcases fr5 y e with e | e
            · exact .inl e
            · omega
          · exact .inr e
        exact Keep.trans kB af7.keep fun y hy e => by
          rcases fr6 y e with e | e
          · rcases fr5 y e with e | e
            · exact .inl e
            · omega
          · omega
      · intro y hy
        rcases af7.fresh y hy with hy | hy
        · rcases fr6 y hy with hy | hy
          · rcases fr5 y hy with hy | hy
            · exact .inl hy
            · exact .inr (by omega)
          · exact .inr (by omega)
        · exact .inr (by omega)
    · have hweq : w = v := by omega
      have hfe : fixT v b (nd w l h) = if b then h else l := by simp only [fixT]; rw [if_neg (by omega), if_pos hweq]
      have k03 : Keep (fun y => F y ∨ y = p.nm) H H3 := k3.mono fun _ _ e => e.elim
      have hfin3 := fin H3 F ts es hs3 List.prefix_rfl (by omega) k03 (fun y h => .inl h)
      rw [hfe] at hfin3
      cases b with
      | true =>
        exact Ld.oi hs3.o5 rfl (CondB.pos rfl (FA.mk (Ld.oi o3 rfl (hfin3 hinh))))
      | false =>
        exact Ld.oi hs3.o5 rfl (CondB.neg rfl (hfin3 hinl))
end Go.Proofs.Ytanaaabejeeakaa
end
section
namespace Go.AI
open DT
theorem andn_nat {x k : Nat} (hx : x < 9223372036854775808) (hk : k < 63) : ∃ y : Nat, arith .andn .i64 (x : Int) ((2 ^ k : Nat) : Int) = (y : Int) ∧ y ≤ x ∧ ∀ j, y.testBit j = (x.testBit j && !decide (j = k)) := by
  have hp : 2 ^ k < 2 ^ 64 := Nat.pow_lt_pow_right (by omega) (by omega)
  refine ⟨(BitVec.ofNat 64 x &&& ~~~ BitVec.ofNat 64 (2 ^ k)).toNat, ?_, ?_, fun j => ?_⟩
  · unfold arith
    simp only [show IntKind.bits .i64 = 64 from rfl, BitVec.ofInt_natCast]
    change IntKind.wrap .i64 (((BitVec.ofNat 64 x &&& ~~~ BitVec.ofNat 64 (2 ^ k)).toNat : Nat) : Int) = _
    refine wrap_nat (Nat.lt_of_le_of_lt ?_ hx)
    rw [BitVec.toNat_and, BitVec.toNat_ofNat, Nat.mod_eq_of_lt (by omega)]
    exact Nat.and_le_left
  · rw [BitVec.toNat_and, BitVec.toNat_ofNat, Nat.mod_eq_of_lt (by omega)]
    exact Nat.and_le_left
  · rw [BitVec.testBit_toNat, BitVec.getLsbD_and, BitVec.getLsbD_not, BitVec.getLsbD_ofNat, BitVec.getLsbD_ofNat, Nat.testBit_two_pow]
    by_cases hj : j < 64
    · simp only [decide_eq_true hj, Bool.true_and]
      congr 2
      by_cases h : k = j
      · rw [decide_eq_true h, decide_eq_true h.symm]
      · rw [decide_eq_false h, decide_eq_false (fun e => h e.symm)]
    · have hx2 : x.testBit j = false := Nat.testBit_lt_two_pow (Nat.lt_of_lt_of_le (by omega : x < 2 ^ 63) (Nat.pow_le_pow_right (by omega) (by omega)))
      rw [hx2]
      simp [hj]
theorem setA_clr {x y v : Nat} (hv : v < 16) (h : ∀ j, y.testBit j = (x.testBit j && !decide (j = 15 - v))) : ∀ w, w < 16 → y.testBit (15 - w) = setA (fun w => x.testBit (15 - w)) v false w := by
  intro w hw
  rw [h]
  unfold setA
  by_cases e : w = v
  · subst e; simp
  · rw [if_neg e, decide_eq_false (by omega)]; simp
theorem setA_set {x y v : Nat} (hv : v < 16) (h : ∀ j, y.testBit j = (x.testBit j || decide (j = 15 - v))) : ∀ w, w < 16 → y.testBit (15 - w) = setA (fun w => x.testBit (15 - w)) v true w := by
  intro w hw
  rw [h]
  unfold setA
  by_cases e : w = v
  · subst e; simp
  · rw [if_neg e, decide_eq_false (by omega)]; simp
def exL : List Nat → ((Nat → Bool) → Bool) → (Nat → Bool) → Bool
  | [], g => g
  | v :: vs, g => exL vs fun ρ => g (setA ρ v false) || g (setA ρ v true)
theorem setA_self (ρ : Nat → Bool) (v : Nat) : setA ρ v (ρ v) = ρ := by
  funext w
  unfold setA
  split
  · next e => rw [e]
  · rfl
theorem setA_setA (ρ : Nat → Bool) (v : Nat) (a b : Bool) : setA (setA ρ v a) v b = setA ρ v b := by
  funext w
  unfold setA
  split <;> rfl
theorem exL_iff : ∀ (vs : List Nat) (g : (Nat → Bool) → Bool) (ρ : Nat → Bool), exL vs g ρ = true ↔ ∃ ρ', (∀ w, w ∉ vs → ρ' w = ρ w) ∧ g ρ' = true
  | [], g, ρ => by
    constructor
    · exact fun h => ⟨ρ, fun _ _ => rfl, h⟩
    · rintro ⟨ρ', h1, h2⟩
      have : ρ' = ρ := funext fun w => h1 w List.not_mem_nil
      rw [← this]; exact h2
  | v :: vs, g, ρ => by
    unfold exL
    rw [exL_iff vs]
    constructor
    · rintro ⟨r, h1, h2⟩
      have : ∃ b, g (setA r v b) = true := by
        rw [Bool.or_eq_true] at h2
        exact h2.elim (fun h => ⟨false, h⟩) fun h => ⟨true, h⟩
      obtain ⟨b, hb⟩ := this
      refine ⟨setA r v b, fun w hw => ?_, hb⟩
      rw [List.mem_cons, not_or] at hw
      unfold setA
      rw [if_neg hw.1]
      exact h1 w hw.2
    · rintro ⟨r, h1, h2⟩
      have key : ∀ r' : Nat → Bool, setA r' v (r v) = r → (g (setA r' v false) || g (setA r' v true)) = true := by
        intro r' e
        rw [← e] at h2
        cases hb : r v with
        | false => rw [hb] at h2; rw [h2]; rfl
        | true => rw [hb] at h2; rw [h2, Bool.or_true]
      by_cases hm : v ∈ vs
      · refine ⟨r, fun w hw => h1 w ?_, key r (setA_self r v)⟩
        rw [List.mem_cons, not_or]
        exact ⟨fun e => hw (e ▸ hm), hw⟩
      · refine ⟨setA r v (ρ v), fun w hw => ?_, key _ (by rw [setA_setA, setA_self])⟩
        by_cases e : w = v
        · subst e; unfold setA; rw [if_pos rfl]
        · unfold setA
          rw [if_neg e]
          refine h1 w ?_
          rw [List.mem_cons, not_or]
          exact ⟨e, hw⟩
theorem exL_set {vs us : List Nat} (h : ∀ w, w ∈ vs ↔ w ∈ us) (g : (Nat → Bool) → Bool) (ρ : Nat → Bool) : exL vs g ρ = exL us g ρ := by
  have e : exL vs g ρ = true ↔ exL us g ρ = true := by
    rw [exL_iff, exL_iff]
    constructor
    · rintro ⟨r, h1, h2⟩
      exact ⟨r, fun w hw => h1 w fun hm => hw ((h w).1 hm), h2⟩
    · rintro ⟨r, h1, h2⟩
      exact ⟨r, fun w hw => h1 w fun hm => hw ((h w).2 hm), h2⟩
  cases h1 : exL vs g ρ with
  | true => exact (e.1 h1).symm
  | false =>
    cases h2 : exL us g ρ with
    | true => rw [e.2 h2] at h1; cases h1
    | false => rfl
theorem exL_snoc : ∀ (vs : List Nat) (v : Nat) (g : (Nat → Bool) → Bool) (ρ : Nat → Bool), exL (vs ++ [v]) g ρ = (exL vs g (setA ρ v false) || exL vs g (setA ρ v true))
  | [], v, g, ρ => rfl
  | u :: vs, v, g, ρ => by
    show exL (vs ++ [v]) _ ρ = _
    rw [exL_snoc vs v]
    rfl
theorem exL_congr16 {vs : List Nat} {g : (Nat → Bool) → Bool} (hg : ∀ ρ ρ' : Nat → Bool, (∀ v, v < 16 → ρ v = ρ' v) → g ρ = g ρ') : ∀ ρ ρ' : Nat → Bool, (∀ v, v < 16 → ρ v = ρ' v) → exL vs g ρ = exL vs g ρ' := by
  induction vs generalizing g with
  | nil => exact hg
  | cons v vs ih =>
    refine ih fun ρ ρ' h => ?_
    have hs : ∀ b w, w < 16 → setA ρ v b w = setA ρ' v b w := fun b w hw => by
      unfold setA
      split
      · rfl
      · exact h w hw
    rw [hg _ _ (hs false), hg _ _ (hs true)]
end Go.AI
end
section
namespace Go.Proofs.Ytanaaabejeeakaa
open Go.AI Go.AI.DT
theorem fixed_c {m : AC} {F : Nat → Prop} {ts : List DT} {x : DT} {v : Nat} {b : Bool} {H : AHeap} (hm : Mgr H m F ts) (hx : In ts x) (hv : v < 16) (hsz : ts.length + 65536 ≤ 4294967296) :
    Fn.Z37 m (ref ts x) (v : Int) (if b then 1 else 0) H fun H' q => ∃ F' ts', After H m F ts 65535 H' F' ts' ∧ In ts' (fixT v b x) ∧ q = ref ts' (fixT v b x) := by
  refine Z37.run ?_
  unfold Z37.W
  refine New.own fun mb H1 hmb hs1 o1 k1 => New.own fun vb H2 hvb hs2 o2 k2 => New.own fun bb H3 hbb hs3 o3 k3 => NewM.i none fun nm H4 hnm hs4 mp k4 => New.own fun nb H5 hnb hs5 o5 k5 => ?_
  refine Sto.own o5 (Nat.le_refl 1) fun H6 o6 k6 hs6 => New.own fun sb H7 hsb hs7 o7 k7 => Fnc.mk rfl rfl ?_
  refine Sto.own o7 (Nat.le_refl 1) fun H8 o8 k8 hs8 => ?_
  have k35 := (k1.trans k2).trans k3
  have hlt := hm.lt
  have kA : Kp H H5 := (k35.trans k4).trans k5
  have kB : Kp H H6 := kA.fresh k6 fun y e => by have e' : y = nb := e; omega
  have kC : Kp H H8 := (kB.trans k7).fresh k8 fun y e => by have e' : y = sb := e; omega
  have q6 : ∀ {c : Nat}, c ≠ nb → ¬ (fun y => y = nb) c := fun h e => h e
  have q8 : ∀ {c : Nat}, c ≠ sb → ¬ (fun y => y = sb) c := fun h e => h e
  have hs : XS H8 m F ts ⟨mb, vb, nb, sb, bb, nm⟩ v b [] := by
    refine ⟨hm.kp kC, ?_, ?_, ?_, o8, ?_, ?_, fun k n h => (by cases h), ?_, ?_⟩
    · exact ((((((o1.kp k2).kp k3).kp k4).kp k5).keep k6 (q6 (by omega))).kp k7).keep k8 (q8 (by omega))
    · exact (((((o2.kp k3).kp k4).kp k5).keep k6 (q6 (by omega))).kp k7).keep k8 (q8 (by omega))
    · exact (o6.kp k7).keep k8 (q8 (by omega))
    · exact ((((o3.kp k4).kp k5).keep k6 (q6 (by omega))).kp k7).keep k8 (q8 (by omega))
    · exact (((mp.kp k5).keep k6 (q6 (by omega))).kp k7).keep k8 (q8 (by omega))
    · intro y hy hl
      have := hlt y hy
      rcases hl with e | e | e | e | e | e <;> simp only at e <;> omega
    · refine ⟨?_, ?_, ?_, ?_, ?_⟩ <;> simp only <;> omega
  have hp : 2 ^ (16 - x.top) ≤ 65536 := pow2_lt (by omega)
  refine Ld.oc o8 rfl (CVT.imp ?_ (CVT.mk lt89 (fixed_m hv x hx hs (by omega))))
  rintro H9 (q : Int) ⟨F', ts', es', hs', p, l, k9, fr, hin, rfl⟩
  have hz := kC.size
  refine ⟨F', ts', ⟨hs'.mgr, p, by omega, ?_, fun y hy => ?_⟩, hin, rfl⟩
  · exact Keep.trans (kC.mono fun _ _ e => e.elim : Keep F H H8) k9 fun y hy e => by
      rcases e with e | e
      · exact e
      · simp only at e; omega
  · rcases fr y hy with h | h
    · exact .inl h
    · exact .inr (by omega)
theorem isVar_c {v : Int} {H : AHeap} : Fn.Z30 v H fun H' q => H' = H ∧ q = (decide (0 ≤ v) && decide (v < 16)) := by
  refine Z30.run ?_
  unfold Z30.W
  refine CondB.dec (fun h => ⟨rfl, ?_⟩) fun h => ⟨rfl, ?_⟩
  · rw [decide_eq_true (show 0 ≤ v from h), Bool.true_and]
  · rw [decide_eq_false (show ¬ 0 ≤ v by omega), Bool.false_and]
open Classical in
noncomputable def rFault (l : List NRow) (r v bit : Int) : Int := if dFault l r ≠ 0 then dFault l r else if v < 0 ∨ 16 ≤ v ∨ (bit ≠ 0 ∧ bit ≠ 1) then 1 else 0
theorem Restrict_c {ra v bit : Int} {sa : AC} {la : List NRow} {H : AHeap} (ha : SlR H sa 3 (nodeRows la)) :
    Fn.Z28 sa ra v bit H fun H' ns root err => ERes H H' (rFault la ra v bit) (fun ρ => dVal la ra (setA ρ v.toNat (bit == 1))) ns root err ∧ Kp H H' := by
  refine Z28.run ?_
  unfold Z28.W
  refine New.own fun b1 H1 hb1 hs1 o1 k1 => New.own fun b3 H3 hb3 hs3 o3 k3 => Ld.o2 (o1.kp k3) sa ra rfl ?_
  have kk := k1.trans k3
  refine RunT.imp ?_ (CheckDiagram_c (ha.kp kk))
  rintro H4 (q : Int) ⟨rfl, k4⟩
  have kk4 := kk.trans k4
  have hz4 := kk4.size
  have hb14 := ((o1.kp k3).kp k4).lt
  have hb34 := (o3.kp k4).lt
  refine CondB.ne (fun hne => ?_) fun he => ?_
  · refine Sto.own (o3.kp k4) (Nat.le_refl 2) fun H5 o5 k5 hs5 => ?_
    exact Ld.o2 o5 (.sl none 0 0 (some 0)) (0 : Int) rfl ⟨.inl ⟨by unfold rFault; rw [if_pos hne]; exact hne, by unfold rFault; rw [if_pos hne], rfl, SlR.nil _ _⟩, kk4.fresh k5 fun y e => by have e' : y = b3 := e; omega⟩
  have hrf : rFault la ra v bit = if v < 0 ∨ 16 ≤ v ∨ (bit ≠ 0 ∧ bit ≠ 1) then 1 else 0 := by unfold rFault; rw [if_neg (by omega)]
  have bad : (v < 0 ∨ 16 ≤ v ∨ (bit ≠ 0 ∧ bit ≠ 1)) → Z28.p15 (fun H' ns root err => ERes H H' (rFault la ra v bit) (fun ρ => dVal la ra (setA ρ v.toNat (bit == 1))) ns root err ∧ Kp H H') v bit (.ptr (some (b1, 0))) (.ptr (some (b3, 0))) true H4 := by
    intro hbad
    rw [if_pos hbad] at hrf
    unfold Z28.p15
    refine CondB.pos rfl (Sto.own (o3.kp k4) (Nat.le_refl 2) fun H5 o5 k5 hs5 => ?_)
    exact Ld.o2 o5 (.sl none 0 0 (some 0)) (0 : Int) rfl ⟨.inl ⟨by omega, hrf.symm, rfl, SlR.nil _ _⟩, kk4.fresh k5 fun y e => by have e' : y = b3 := e; omega⟩
  have good : ¬ (v < 0 ∨ 16 ≤ v ∨ (bit ≠ 0 ∧ bit ≠ 1)) → Z28.p15 (fun H' ns root err => ERes H H' (rFault la ra v bit) (fun ρ => dVal la ra (setA ρ v.toNat (bit == 1))) ns root err ∧ Kp H H') v bit (.ptr (some (b1, 0))) (.ptr (some (b3, 0))) false H4 := by
    intro hgood
    rw [if_neg hgood] at hrf
    unfold Z28.p15
    refine CondB.neg rfl ?_
    obtain ⟨l1, c1⟩ := dFault_len he
    refine RunT.imp ?_ newManager_c
    rintro H6 m ⟨⟨F, hm, hF⟩, k6⟩
    refine Ld.o2 (((o1.kp k3).kp k4).kp k6) sa ra rfl (RunT.imp ?_ (add_c ha (Kp.old (kk4.trans k6)) hm (fun x h => by have := hF x h; omega) c1.of.1 c1.of.2.1 c1.of.2.2.1 l1 (by simp)))
    rintro H7 qa ⟨F7, ts7, af7, in7, rfl⟩
    have k47 : Kp H4 H7 := k6.fresh af7.keep fun x h => hF x h
    have hl7 := af7.len
    have hF7 : ∀ x, F7 x → H4.size ≤ x := fun x h => (af7.fresh x h).elim (hF x) fun h => by have := k6.size; omega
    simp only [List.length_nil, Nat.zero_add] at hl7
    obtain ⟨w, rfl⟩ : ∃ w : Nat, v = w := ⟨v.toNat, by omega⟩
    obtain ⟨b, rfl⟩ : ∃ b : Bool, bit = if b then 1 else 0 := by
      by_cases hb : bit = 1
      · exact ⟨true, hb⟩
      · exact ⟨false, by simp only [Bool.false_eq_true, if_false]; omega⟩
    refine RunT.imp ?_ (fixed_c (v := w) (b := b) af7.mgr in7 (by omega) (by omega))
    rintro H9 q ⟨F9, ts9, af9, in9, rfl⟩
    have hl9 := af9.len
    have k49 : Kp H4 H9 := k47.fresh af9.keep fun x h => hF7 x h
    refine RunT.imp ?_ (result_c af9.mgr in9 (by omega))
    rintro H10 (ns : AC) (root : Int) (err : Int) ⟨hres, k10⟩
    have hz9 := k49.size
    have kk10 := (kk4.trans k49).trans k10
    have hev : ∀ ρ, (fixT w b (atR (bld la) ra)).eval ρ = dVal la ra (setA ρ (w : Int).toNat ((if b then (1 : Int) else 0) == 1)) := by
      intro ρ
      have e1 : ((if b then (1 : Int) else 0) == 1) = b := by cases b <;> rfl
      rw [e1, Int.toNat_natCast]
      exact (fixT_spec (v := w) (b := b) _ (af7.mgr.fin.ro in7)).2.2 ρ
    refine Sto.own (((o3.kp k4).kp k49).kp k10) (Nat.le_refl 2) fun H11 o11 k11 hs11 => Ld.o2 o11 ns root rfl ⟨.inr ⟨hrf, _, af9.mgr.fin.ro in9, hev, ?_⟩, kk10.fresh k11 fun y e => by have e' : y = b3 := e; omega⟩
    exact (hres.keep k11 fun y e => by have e' : y = b3 := e; omega).from (by omega)
  refine RunT.imp ?_ isVar_c
  rintro H5 (q : Bool) ⟨eH, rfl⟩
  obtain rfl : H4 = H5 := eH.symm
  by_cases hv : 0 ≤ v ∧ v < 16
  · rw [decide_eq_true hv.1, decide_eq_true hv.2]
    refine CondB.neg rfl (CondB.ne (fun h0 => ?_) fun h0 => good (by omega))
    by_cases h1 : bit = 1
    · rw [show (bit != 1) = false from by rw [h1]; rfl]
      exact good (by omega)
    · rw [show (bit != 1) = true from by simpa using h1]
      exact bad (by omega)
  · have e : (decide (0 ≤ v) && decide (v < 16)) = false := by
      rw [Bool.and_eq_false_iff, decide_eq_false_iff_not, decide_eq_false_iff_not]
      omega
    rw [e]
    exact CondB.pos rfl (bad (by omega))
end Go.Proofs.Ytanaaabejeeakaa
end
section
namespace Go.Proofs.Ytanaaabejeeakaa
open Go.AI Go.AI.DT Go.Lib
theorem lt68 : 68 < Try.prog.funcs.size := (Array.getElem?_eq_some_iff.1 Try.func68).1
theorem iRow_at {l : List Int} {i : Nat} {p : Int} (h : l[i]? = some p) : (iRows l)[i]? = some [AC.int .i64 p] := by unfold iRows; rw [List.getElem?_map, h]; rfl
theorem IndexFuncI_c {s fn : AC} {l : List Int} {H : AHeap} {f : Int → Bool} (hs : SlR H s 1 (iRows l)) (hlen : l.length < 4611686018427387904)
    (hf : ∀ (p : Int) (H2 : AHeap), Kp H H2 → CVT Try.prog [(false, [.bool])] fn [(.one (.int .i64 p))] H2 fun H3 b => Kp H2 H3 ∧ b = f p) :
    Fn.Z17 s fn H fun H' q => Kp H H' ∧ (0 ≤ q ↔ ∃ p ∈ l, f p = true) := by
  refine Z17.run ?_
  unfold Z17.W Z17.l6
  refine LenS.of hs ?_
  rw [iRows_len]
  refine LoopT.rule (fun m s0 H3 => ∃ i : Nat, i ≤ l.length ∧ m = l.length - i ∧ s0 = (s, fn, (l.length : Int), (i : Int), ()) ∧ Kp H H3 ∧ ∀ j p, j < i → l[j]? = some p → f p = false) l.length ⟨0, by omega, by omega, rfl, Kp.refl _, fun j p h => by omega⟩ ?_
  rintro m s0 H3 back ⟨i, hi, rfl, rfl, k3, hall⟩ hback
  simp only [Z17.b6]
  refine CondB.dec (fun hlt => ?_) fun hge => ?_
  · have hi' : i < l.length := by omega
    obtain ⟨p, hp⟩ : ∃ b, l[i]? = some b := ⟨_, List.getElem?_eq_getElem hi'⟩
    refine IA.of (hs.kp k3) (by omega) (by rw [Int.toNat_natCast]; exact iRow_at hp) fun b1 o1 hld => Ld.all hld ((p : Int), ()) rfl rfl ?_
    refine CVT.imp ?_ (hf p H3 k3)
    rintro H4 b ⟨k4, rfl⟩
    refine CondB.mk (fun hc => ⟨k3.trans k4, ?_⟩) fun hc => ?_
    · exact ⟨fun _ => ⟨p, List.mem_of_getElem? hp, hc⟩, fun _ => by show (0 : Int) ≤ (i : Int); omega⟩
    · refine hback (l.length - (i + 1)) _ _ (by omega) ⟨i + 1, by omega, rfl, ?_, k3.trans k4, fun j q hj hq => ?_⟩
      · exact tc rfl (tc rfl (tc rfl (tc ((wrap64 (by omega) (by omega)).trans (by omega)) rfl)))
      · by_cases hji : j = i
        · subst hji
          rw [hp] at hq
          cases hq
          exact hc
        · exact hall j q (by omega) hq
  · refine ⟨k3, fun h => by exfalso; have h' : (0 : Int) ≤ -1 := h; omega, fun ⟨p, hp, he⟩ => ?_⟩
    obtain ⟨j, hj, e⟩ := List.getElem_of_mem hp
    have := hall j p (by omega) (by rw [List.getElem?_eq_getElem hj, e])
    rw [this] at he; cases he
theorem noVar_c {s : AC} {l : List Int} {H : AHeap} (hs : SlR H s 1 (iRows l)) (hlen : l.length < 4611686018427387904) :
    Fn.Z14 s (.fn 68 [] []) H fun H' q => Kp H H' ∧ (q = true ↔ ∃ p ∈ l, p < 0 ∨ 16 ≤ p) := by
  refine Z14.run ?_
  unfold Z14.W
  refine RunT.imp ?_ (IndexFuncI_c (f := fun p => !(decide (0 ≤ p) && decide (p < 16))) hs hlen fun p H2 k2 => CVT.mk lt68 ?_)
  · rintro H5 (q : Int) ⟨k5, hq⟩
    refine ⟨k5, ?_⟩
    rw [decide_eq_true_iff, ge_iff_le, hq]
    refine exists_congr fun p => and_congr_right fun _ => ?_
    rw [Bool.not_eq_true', Bool.and_eq_false_iff, decide_eq_false_iff_not, decide_eq_false_iff_not]
    omega
  · refine Z27.run ?_
    unfold Z27.W
    refine RunT.imp ?_ isVar_c
    rintro H3 (q : Bool) ⟨eH, rfl⟩
    obtain rfl : H2 = H3 := eH.symm
    exact ⟨Kp.refl _, rfl⟩
theorem asc_len : ∀ (l : List Int) (a : Int), l.Pairwise (· < ·) → (∀ x ∈ l, a ≤ x ∧ x < 16) → a ≤ 16 → (l.length : Int) ≤ 16 - a
  | [], a, _, _, ha => by simp; omega
  | x :: l, a, hl, h, ha => by
    have hl' := List.pairwise_cons.1 hl
    have hx := h x (List.mem_cons_self ..)
    have := asc_len l (x + 1) hl'.2 (fun y hy => ⟨hl'.1 y hy, (h y (List.mem_cons_of_mem _ hy)).2⟩) (by omega)
    rw [List.length_cons]
    omega
def natsOf (l : List Int) : List Nat := l.map Int.toNat
theorem natsOf_mem {l us : List Int} (h : ∀ x, x ∈ l ↔ x ∈ us) (w : Nat) : w ∈ natsOf l ↔ w ∈ natsOf us := by
  unfold natsOf
  rw [List.mem_map, List.mem_map]
  exact exists_congr fun x => and_congr_left fun _ => h x
open Classical in
noncomputable def eFault (l : List NRow) (r : Int) (vs : List Int) : Int := if dFault l r ≠ 0 then dFault l r else if ∃ p ∈ vs, p < 0 ∨ 16 ≤ p then 1 else 0
theorem Exists_c {ra : Int} {sa sv : AC} {la : List NRow} {vs : List Int} {H : AHeap} (ha : SlR H sa 3 (nodeRows la)) (hv : SlR H sv 1 (iRows vs)) (hw : GW H) (hl : vs.length < 4611686018427387904) (hl2 : vs.length * 8 + 8 ≤ 140737488355328) :
    Fn.Z26 sa ra sv H fun H' ns root err => ERes H H' (eFault la ra vs) (exL (natsOf vs) (dVal la ra)) ns root err ∧ Kp H H' := by
  refine Z26.run ?_
  unfold Z26.W
  refine New.own fun b1 H1 hb1 hs1 o1 k1 => New.own fun b3 H3 hb3 hs3 o3 k3 => Ld.o2 (o1.kp k3) sa ra rfl ?_
  have kk := k1.trans k3
  refine RunT.imp ?_ (CheckDiagram_c (ha.kp kk))
  rintro H4 (q : Int) ⟨rfl, k4⟩
  have kk4 := kk.trans k4
  have hz4 := kk4.size
  have hb34 := (o3.kp k4).lt
  refine CondB.ne (fun hne => ?_) fun he => ?_
  · refine Sto.own (o3.kp k4) (Nat.le_refl 2) fun H5 o5 k5 hs5 => ?_
    exact Ld.o2 o5 (.sl none 0 0 (some 0)) (0 : Int) rfl ⟨.inl ⟨by unfold eFault; rw [if_pos hne]; exact hne, by unfold eFault; rw [if_pos hne], rfl, SlR.nil _ _⟩, kk4.fresh k5 fun y e => by have e' : y = b3 := e; omega⟩
  have hrf : eFault la ra vs = if ∃ p ∈ vs, p < 0 ∨ 16 ≤ p then 1 else 0 := by unfold eFault; rw [if_neg (by omega)]
  refine RunT.imp ?_ (noVar_c (hv.kp kk4) hl)
  rintro H5 (q : Bool) ⟨k5, hq⟩
  have kk5 := kk4.trans k5
  refine CondB.mk (fun hc => ?_) fun hc => ?_
  · rw [if_pos (hq.1 hc)] at hrf
    refine Sto.own ((o3.kp k4).kp k5) (Nat.le_refl 2) fun H6 o6 k6 hs6 => ?_
    exact Ld.o2 o6 (.sl none 0 0 (some 0)) (0 : Int) rfl ⟨.inl ⟨by omega, hrf.symm, rfl, SlR.nil _ _⟩, kk5.fresh k6 fun y e => by have e' : y = b3 := e; omega⟩
  have hno : ¬ ∃ p ∈ vs, p < 0 ∨ 16 ≤ p := fun h => by rw [hq.2 h] at hc; cases hc
  rw [if_neg hno] at hrf
  obtain ⟨l1, c1⟩ := dFault_len he
  have o15 := ((o1.kp k3).kp k4).kp k5
  have o35 := (o3.kp k4).kp k5
  have hb35 := o35.lt
  have hz5 := kk5.size
  refine RunT.imp ?_ newManager_c
  rintro H6 m ⟨⟨F, hm, hF⟩, k6⟩
  refine Ld.o2 (o15.kp k6) sa ra rfl (RunT.imp ?_ (add_c ha (Kp.old (kk5.trans k6)) hm (fun x h => by have := hF x h; omega) c1.of.1 c1.of.2.1 c1.of.2.2.1 l1 (by simp)))
  rintro H7 qa ⟨F7, ts7, af7, in7, rfl⟩
  have k57 : Kp H5 H7 := k6.fresh af7.keep fun x h => hF x h
  have hl7 := af7.len
  have hF7 : ∀ x, F7 x → H5.size ≤ x := fun x h => (af7.fresh x h).elim (hF x) fun h => by have := k6.size; omega
  have hF7l := af7.mgr.lt
  have hm7 := af7.mgr
  simp only [List.length_nil, Nat.zero_add] at hl7
  refine RunT.imp ?_ (Z19.run (Q := fun H' q => ∃ bx, q = .fn 93 [] [(bx, 0)] ∧ Own H' bx [sv] ∧ Kp H7 H') ?_)
  rotate_left
  · unfold Z19.W
    exact New.own fun bx H8 hbx hs8 o8 k8 => Fnc.mk rfl rfl ⟨bx, rfl, o8, k8⟩
  rintro H8 (q : AC) ⟨bx, rfl, o8, k8⟩
  have kk8 := (kk5.trans k57).trans k8
  have hw8 := kk8.gw.1 hw
  refine RunT.imp ?_ (Sorted_c o8 (hv.kp kk8) hw8 hl hl2)
  rintro H9 (q : AC) ⟨⟨Fs, ho9, hFs⟩, k9⟩
  refine RunT.imp ?_ (Compact_o ho9 (k9.gw.1 hw8) (by unfold sortI; rw [List.length_mergeSort]; exact hl))
  rintro H10 (q : AC) ⟨hq10, hqF, k10⟩
  have k710 : Kp H7 H10 := (k8.trans k9).fresh k10 fun y h => by have := hFs y h; have := k8.size; omega
  obtain ⟨us, hus⟩ : ∃ us, us = compact (sortI vs) := ⟨_, rfl⟩
  obtain ⟨ua, um⟩ := compact_sort vs
  change (compact (sortI vs)).Pairwise (· < ·) at ua
  change ∀ x, x ∈ compact (sortI vs) ↔ x ∈ vs at um
  rw [← hus] at ua um hq10
  have hur : ∀ x ∈ us, 0 ≤ x ∧ x < 16 := fun x hx => by
    have := (um x).1 hx
    by_cases h : 0 ≤ x ∧ x < 16
    · exact h
    · exact absurd ⟨x, this, by omega⟩ hno
  have hul := asc_len us 0 ua hur (by omega)
  have hval : exL (natsOf vs) (dVal la ra) = exL (natsOf us) (dVal la ra) := funext fun ρ => exL_set (fun w => natsOf_mem (fun x => (um x).symm) w) _ ρ
  rw [hval, hrf]
  have k510 := k57.trans k710
  have h1 := k710.size
  refine LenS.of hq10 ?_
  rw [iRows_len]
  unfold Z26.l28
  refine LoopT.rule (fun mm s0 H11 => ∃ (i : Nat) (Fi : Nat → Prop) (ts : List DT) (x : DT), i ≤ us.length ∧ mm = us.length - i ∧ s0 = (.ptr (some (b3, 0)), m, ref ts x, q, (us.length : Int), (i : Int), ()) ∧
    Mgr H11 m Fi ts ∧ In ts x ∧ ts.length ≤ 2000 + i * 196605 ∧ (∀ ρ, x.eval ρ = exL (natsOf (us.take i)) (dVal la ra) ρ) ∧ Keep F7 H10 H11 ∧ (∀ y, Fi y → F7 y ∨ H10.size ≤ y)) us.length
    ⟨0, F7, ts7, atR (bld la) ra, by omega, by omega, rfl, hm7.kp k710, in7, by omega, fun ρ => rfl, Keep.refl _ _, fun y h => .inl h⟩ ?_
  rintro mm s0 H11 back ⟨i, Fi, ts, x, hi, rfl, rfl, hm11, hx, hlt, hev, k11, hFi⟩ hback
  simp only [Z26.b28]
  have hF7' : ∀ b o n cap z, q = .sl (some (b, o)) z n cap → ¬ F7 b := fun b o n cap z e hF => by
    have := hFs b (hqF b o z n cap e)
    have := hF7l b hF
    have := k8.size
    omega
  have k511 : Kp H5 H11 := k510.fresh k11 hF7
  refine CondB.dec (fun hlt2 => ?_) fun hge => ?_
  · have hi' : i < us.length := by omega
    obtain ⟨p, hp⟩ : ∃ b, us[i]? = some b := ⟨_, List.getElem?_eq_getElem hi'⟩
    have hpr := hur p (List.mem_of_getElem? hp)
    obtain ⟨w, rfl⟩ : ∃ w : Nat, p = w := ⟨p.toNat, by omega⟩
    refine IA.of (hq10.keep k11 hF7') (by omega) (by rw [Int.toNat_natCast]; exact iRow_at hp) fun b1 o1 hld => Ld.all hld ((w : Int), ()) rfl rfl ?_
    refine RunT.imp ?_ (fixed_c (v := w) (b := false) hm11 hx (by omega) (by omega))
    rintro H12 (q2 : Int) ⟨F12, ts12, af12, in12, rfl⟩
    have l12 := af12.len
    rw [← ref_mono hx af12.pre]
    refine RunT.imp ?_ (fixed_c (v := w) (b := true) af12.mgr (hx.mono af12.pre) (by omega) (by omega))
    rintro H13 (q2 : Int) ⟨F13, ts13, af13, in13, rfl⟩
    have l13 := af13.len
    rw [← ref_mono in12 af13.pre]
    refine RunT.imp ?_ (or_c af13.mgr (in12.mono af13.pre) in13 (by omega))
    rintro H14 (q2 : Int) ⟨F14, ts14, r, af14, in14, rfl, hev14⟩
    have af := (af12.trans af13).trans af14
    have laf := af.len
    refine hback (us.length - (i + 1)) _ _ (by omega) ⟨i + 1, F14, ts14, r, by omega, rfl, ?_, af.mgr, in14, by omega, fun ρ => ?_, Keep.trans k11 af.keep fun y hy h => ?_, fun y hy => ?_⟩
    · exact tc rfl (tc rfl (tc rfl (tc rfl (tc rfl (tc ((wrap64 (by omega) (by omega)).trans (by omega)) rfl)))))
    · have hro := hm11.fin.ro hx
      rw [hev14 ρ]
      show ((fixT w false x).eval ρ || (fixT w true x).eval ρ) = _
      rw [(fixT_spec (v := w) (b := false) x hro).2.2 ρ, (fixT_spec (v := w) (b := true) x hro).2.2 ρ, hev, hev]
      have e : natsOf (us.take (i + 1)) = natsOf (us.take i) ++ [w] := by
        unfold natsOf
        rw [List.take_add_one, List.map_append, hp]
        rfl
      rw [e, exL_snoc]
    · rcases hFi y h with h | h
      · exact h
      · omega
    · rcases af.fresh y hy with h | h
      · exact hFi y h
      · exact .inr (by have := k11.size; omega)
  · have hil : i = us.length := by omega
    subst hil
    rw [List.take_length] at hev
    refine RunT.imp ?_ (result_c hm11 hx (by omega))
    rintro H12 (ns : AC) (root : Int) (err : Int) ⟨hres, k12⟩
    have hz11 := k511.size
    have kk12 := (kk5.trans k511).trans k12
    refine Sto.own ((o35.kp k511).kp k12) (Nat.le_refl 2) fun H13 o13 k13 hs13 => Ld.o2 o13 ns root rfl ⟨.inr ⟨rfl, x, hm11.fin.ro hx, hev, ?_⟩, kk12.fresh k13 fun y e => by have e' : y = b3 := e; omega⟩
    exact (hres.keep k13 fun y e => by have e' : y = b3 := e; omega).from (by omega)
end Go.Proofs.Ytanaaabejeeakaa
end
section
namespace Go.Proofs.Ytanaaabejeeakaa
open Go.AI Go.AI.DT
theorem mask_eq {w : Nat} (hw : w < 16) : shl .i64 1 (IntKind.wrap .i64 (15 - (w : Int))) = ((2 ^ (15 - w) : Nat) : Int) := by
  have e : IntKind.wrap .i64 (15 - (w : Int)) = ((15 - w : Nat) : Int) := (wrap64 (by omega) (by omega)).trans (by omega)
  have hp : 2 ^ (15 - w) ≤ 65536 := pow2_lt (by omega)
  have := shl_nat (x := 1) (v := 15 - w) (by omega) (by rw [Nat.shiftLeft_eq, Nat.one_mul]; omega)
  rw [Nat.shiftLeft_eq, Nat.one_mul] at this
  rw [e]
  exact this
theorem clr_idx {i w : Nat} (hi : i < 65536) (hw : w < 16) : ∃ j : Nat, arith .andn .i64 (i : Int) ((2 ^ (15 - w) : Nat) : Int) = (j : Int) ∧ j < 65536 ∧ ∀ u, u < 16 → rho j u = setA (rho i) w false u := by
  obtain ⟨y, h1, h2, h3⟩ := andn_nat (x := i) (k := 15 - w) (by omega) (by omega)
  exact ⟨y, h1, by omega, setA_clr hw h3⟩
theorem set_idx {i w : Nat} (hi : i < 65536) (hw : w < 16) : ∃ j : Nat, arith .or .i64 (i : Int) ((2 ^ (15 - w) : Nat) : Int) = (j : Int) ∧ j < 65536 ∧ ∀ u, u < 16 → rho j u = setA (rho i) w true u := by
  have hp : 2 ^ (15 - w) < 2 ^ 16 := Nat.pow_lt_pow_right (by omega) (by omega)
  refine ⟨i ||| 2 ^ (15 - w), or_nat (by omega) (by omega), Nat.or_lt_two_pow (n := 16) hi hp, setA_set hw fun j => ?_⟩
  rw [Nat.testBit_or, Nat.testBit_two_pow]
  congr 1
  exact decide_eq_decide.2 ⟨Eq.symm, Eq.symm⟩
theorem fix_idx {i w : Nat} {b : Bool} (hi : i < 65536) (hw : w < 16) : ∃ j : Nat, arith .or .i64 (arith .andn .i64 (i : Int) ((2 ^ (15 - w) : Nat) : Int)) (IntKind.wrap .i64 ((if b then (1 : Int) else 0) * ((2 ^ (15 - w) : Nat) : Int))) = (j : Int) ∧ j < 65536 ∧ ∀ u, u < 16 → rho j u = setA (rho i) w b u := by
  obtain ⟨y, h1, h2, h3⟩ := clr_idx hi hw
  have hp : 2 ^ (15 - w) ≤ 65536 := pow2_lt (by omega)
  rw [h1]
  cases b with
  | false =>
    have e : IntKind.wrap .i64 ((if false = true then (1 : Int) else 0) * ((2 ^ (15 - w) : Nat) : Int)) = ((0 : Nat) : Int) := by
      simp only [Bool.false_eq_true, if_false, Int.zero_mul]
      rfl
    rw [e]
    exact ⟨y, by rw [or_nat (by omega) (by omega), Nat.or_zero], h2, h3⟩
  | true =>
    have e : IntKind.wrap .i64 ((if true = true then (1 : Int) else 0) * ((2 ^ (15 - w) : Nat) : Int)) = ((2 ^ (15 - w) : Nat) : Int) := by
      simp only [if_true, Int.one_mul]
      exact wrap_nat (by omega)
    rw [e]
    obtain ⟨j, g1, g2, g3⟩ := set_idx h2 hw
    refine ⟨j, g1, g2, fun u hu => ?_⟩
    rw [g3 u hu]
    unfold setA
    split
    · rfl
    · next hne =>
      have := h3 u hu
      unfold setA at this
      rw [if_neg hne] at this
      exact this
theorem setA_16 {v : Nat} {b : Bool} {ρ ρ' : Nat → Bool} (h : ∀ w, w < 16 → ρ w = ρ' w) : ∀ w, w < 16 → setA ρ v b w = setA ρ' v b w := by
  intro w hw
  unfold setA
  split
  · rfl
  · exact h w hw
theorem Restricted_c {ra v bit : Int} {sa : AC} {la : List NRow} {H : AHeap} (ha : SlR H sa 3 (nodeRows la)) :
    Fn.Z6 sa ra v bit H fun H' ns root err => ERes H H' (rFault la ra v bit) (fun ρ => dVal la ra (setA ρ v.toNat (bit == 1))) ns root err ∧ Kp H H' := by
  refine Z6.run ?_
  unfold Z6.W
  refine New.own fun b1 H1 hb1 hs1 o1 k1 => New.own fun b3 H3 hb3 hs3 o3 k3 => Ld.o2 (o1.kp k3) sa ra rfl ?_
  have kk := k1.trans k3
  refine RunT.imp ?_ (DiagramFault_c (ha.kp kk))
  rintro H4 (q : Int) ⟨rfl, k4⟩
  have kk4 := kk.trans k4
  have hz4 := kk4.size
  have hb14 := ((o1.kp k3).kp k4).lt
  have hb34 := (o3.kp k4).lt
  refine CondB.ne (fun hne => ?_) fun he => ?_
  · refine Sto.own (o3.kp k4) (Nat.le_refl 2) fun H5 o5 k5 hs5 => ?_
    exact Ld.o2 o5 (.sl none 0 0 (some 0)) (0 : Int) rfl ⟨.inl ⟨by unfold rFault; rw [if_pos hne]; exact hne, by unfold rFault; rw [if_pos hne], rfl, SlR.nil _ _⟩, kk4.fresh k5 fun y e => by have e' : y = b3 := e; omega⟩
  have hrf : rFault la ra v bit = if v < 0 ∨ 16 ≤ v ∨ (bit ≠ 0 ∧ bit ≠ 1) then 1 else 0 := by unfold rFault; rw [if_neg (by omega)]
  have bad : (v < 0 ∨ 16 ≤ v ∨ (bit ≠ 0 ∧ bit ≠ 1)) → Z6.p15 (fun H' ns root err => ERes H H' (rFault la ra v bit) (fun ρ => dVal la ra (setA ρ v.toNat (bit == 1))) ns root err ∧ Kp H H') v bit (.ptr (some (b1, 0))) (.ptr (some (b3, 0))) true H4 := by
    intro hbad
    rw [if_pos hbad] at hrf
    unfold Z6.p15
    refine CondB.pos rfl (Sto.own (o3.kp k4) (Nat.le_refl 2) fun H5 o5 k5 hs5 => ?_)
    exact Ld.o2 o5 (.sl none 0 0 (some 0)) (0 : Int) rfl ⟨.inl ⟨by omega, hrf.symm, rfl, SlR.nil _ _⟩, kk4.fresh k5 fun y e => by have e' : y = b3 := e; omega⟩
  have good : ¬ (v < 0 ∨ 16 ≤ v ∨ (bit ≠ 0 ∧ bit ≠ 1)) → Z6.p15 (fun H' ns root err => ERes H H' (rFault la ra v bit) (fun ρ => dVal la ra (setA ρ v.toNat (bit == 1))) ns root err ∧ Kp H H') v bit (.ptr (some (b1, 0))) (.ptr (some (b3, 0))) false H4 := by
    intro hgood
    rw [if_neg hgood] at hrf
    unfold Z6.p15
    refine CondB.neg rfl ?_
    obtain ⟨x, hx, hxl, rfl, rfl, hval⟩ := dTree he
    obtain ⟨w, rfl⟩ : ∃ w : Nat, v = w := ⟨v.toNat, by omega⟩
    obtain ⟨b, rfl⟩ : ∃ b : Bool, bit = if b then 1 else 0 := by
      by_cases hb : bit = 1
      · exact ⟨true, hb⟩
      · exact ⟨false, by simp only [Bool.false_eq_true, if_false]; omega⟩
    have hw : w < 16 := by omega
    have hev : (fun ρ => dVal (rowsOf x) (ref (ser x []) x) (setA ρ (w : Int).toNat ((if b then (1 : Int) else 0) == 1))) = fun ρ => x.eval (setA ρ w b) := funext fun ρ => by
      have e1 : ((if b then (1 : Int) else 0) == 1) = b := by cases b <;> rfl
      rw [e1, Int.toNat_natCast, hval]
    rw [hev, hrf]
    refine Ld.o2 ((o1.kp k3).kp k4) sa (ref (ser x []) x) rfl (RunT.imp ?_ (DiagramTable_c hx (ha.kp kk4)))
    rintro H5 (r : AC) ⟨⟨tb, cap, rfl, hot, htb⟩, k5⟩
    have kk5 := kk4.trans k5
    refine GE0.mk ?_ (LenS.mk ?_)
    · have e : IntKind.wrap .i64 (15 - (w : Int)) = ((15 - w : Nat) : Int) := (wrap64 (by omega) (by omega)).trans (by omega)
      rw [e]; omega
    rw [mask_eq hw]
    obtain ⟨N, hN⟩ : ∃ N : Nat, N = 65536 := ⟨_, rfl⟩
    have hcell : ∀ j, j < N → ((tabOf x.eval).map AC.bool)[j]? = some (.bool (x.eval (rho j))) := fun j hj => tab_cell (by omega)
    have hidx := fun (i : Nat) (hi : i < N) => fix_idx (i := i) (w := w) (b := b) (by omega) hw
    rw [← hN] at hidx
    obtain ⟨cs0, hcs0⟩ : ∃ cs, cs = (tabOf x.eval).map AC.bool := ⟨_, rfl⟩
    rw [← hcs0] at hot hcell
    rw [show (65536 : Nat) = N from hN.symm]
    refine MkS.own (n := N) (by omega) (by omega) fun cb H6 hcb hs6 oc k6 => ?_
    have hotl := hot.lt
    obtain ⟨B, hB⟩ : ∃ B : Int, B = ((2 ^ (15 - w) : Nat) : Int) := ⟨_, rfl⟩
    rw [← hB] at hidx ⊢
    unfold Z6.l30
    refine LoopT.rule (fun m s0 H7 => ∃ (i : Nat) (cs : List AC), i ≤ N ∧ m = N - i ∧ s0 = ((if b then 1 else 0 : Int), .ptr (some (b3, 0)), .sl (some (tb, 0)) 1 N cap, B, .sl (some (cb, 0)) 1 N (some N), (i : Int), ()) ∧ Kp H5 H7 ∧ Own H7 cb cs ∧ cs.length = N ∧
      (∀ j, j < i → cs[j]? = some (.bool (x.eval (setA (rho j) w b))))) N ⟨0, _, by omega, by omega, rfl, k6, oc, List.length_replicate, fun j h => by omega⟩ ?_
    rintro m s0 H7 back ⟨i, cs, hi, rfl, rfl, k7, oc7, hcl, hlo⟩ hback
    simp only [Z6.b30]
    refine LenS.mk (CondB.dec (fun hlt => ?_) fun hge => ?_)
    · have hi' : i < N := by omega
      obtain ⟨j, e1, e2, e3⟩ := hidx i hi'
      rw [e1]
      refine IA.mk (by omega) (by omega) (Ld.ob (hot.kp k7) (by rw [Nat.zero_add, Nat.mul_one, Int.toNat_natCast]; exact hcell j e2) (IA.mk (by omega) (by omega) ?_))
      refine Sto.cell oc7 (by rw [hcl]; omega) fun H8 oc8 k8 hs8 => ?_
      refine hback (N - (i + 1)) _ _ (by omega) ⟨i + 1, _, by omega, rfl, ?_, k7.fresh k8 fun y e => by have e' : y = cb := e; omega, oc8, by rw [List.length_set, hcl], fun k hk => ?_⟩
      · exact tc rfl (tc rfl (tc rfl (tc rfl (tc rfl (tc ((wrap64 (by omega) (by omega)).trans (by omega)) rfl)))))
      · simp only [Int.toNat_natCast, Nat.mul_one, Nat.zero_add]
        by_cases hki : k = i
        · subst hki; rw [List.getElem?_set_self (by omega), eval_congr16 e3 x hx]
        · rw [List.getElem?_set_ne (by omega)]; exact hlo k (by omega)
    · have hiN : i = N := by omega
      have hcs : cs = (tabOf fun ρ => x.eval (setA ρ w b)).map AC.bool := tab_cells (by omega) fun j hj => hlo j (by omega)
      rw [hcs] at oc7
      rw [hN]
      refine RunT.imp ?_ (OfTable_e oc7 fun ρ ρ' h => eval_congr16 (setA_16 h) x hx)
      rintro H8 (ns : AC) (root : Int) (err : Int) ⟨hres, k8⟩
      have kk7 := kk5.trans k7
      have hz7 := kk7.size
      have h47 := (k5.trans k7).size
      refine Sto.own ((((o3.kp k4).kp k5).kp k7).kp k8) (Nat.le_refl 2) fun H9 o9 k9 hs9 => Ld.o2 o9 ns root rfl ⟨?_, (kk7.trans k8).fresh k9 fun y e => by have e' : y = b3 := e; omega⟩
      exact (hres.keep k9 fun y e => by have e' : y = b3 := e; omega).from hz7
  refine CondB.dec (fun h => bad (by omega)) fun h => CondB.dec (fun h2 => bad (by omega)) fun h2 => CondB.ne (fun h0 => ?_) fun h0 => good (by omega)
  by_cases h1 : bit = 1
  · rw [show (bit != 1) = false from by rw [h1]; rfl]
    exact good (by omega)
  · rw [show (bit != 1) = true from by simpa using h1]
    exact bad (by omega)
end Go.Proofs.Ytanaaabejeeakaa
end
section
namespace Go.Proofs.Ytanaaabejeeakaa
open Go.AI Go.AI.DT
theorem natsOf_take {l : List Int} {i w : Nat} (h : l[i]? = some (w : Int)) : natsOf (l.take (i + 1)) = natsOf (l.take i) ++ [w] := by
  unfold natsOf
  rw [List.take_add_one, List.map_append, h]
  rfl
theorem ldRow {H : AHeap} {b o : Nat} {p : Int} {k : Int → Prop} (h : H.load (b, o) 1 = some [.int .i64 p]) (q : k p) : Ld [.int .i64] H (.ptr (some (b, o))) k := Ld.all h ((p : Int), ()) rfl rfl q
theorem Existing_c {ra : Int} {sa sv : AC} {la : List NRow} {vs : List Int} {H : AHeap} (ha : SlR H sa 3 (nodeRows la)) (hv : SlR H sv 1 (iRows vs)) (hl : vs.length < 4611686018427387904) :
    Fn.Z4 sa ra sv H fun H' ns root err => ERes H H' (eFault la ra vs) (exL (natsOf vs) (dVal la ra)) ns root err ∧ Kp H H' := by
  refine Z4.run ?_
  unfold Z4.W
  refine New.own fun b1 H1 hb1 hs1 o1 k1 => New.own fun b3 H3 hb3 hs3 o3 k3 => Ld.o2 (o1.kp k3) sa ra rfl ?_
  have kk := k1.trans k3
  refine RunT.imp ?_ (DiagramFault_c (ha.kp kk))
  rintro H4 (q : Int) ⟨rfl, k4⟩
  have kk4 := kk.trans k4
  have hz4 := kk4.size
  have hb14 := ((o1.kp k3).kp k4).lt
  have hb34 := (o3.kp k4).lt
  refine CondB.ne (fun hne => ?_) fun he => ?_
  · refine Sto.own (o3.kp k4) (Nat.le_refl 2) fun H5 o5 k5 hs5 => ?_
    exact Ld.o2 o5 (.sl none 0 0 (some 0)) (0 : Int) rfl ⟨.inl ⟨by unfold eFault; rw [if_pos hne]; exact hne, by unfold eFault; rw [if_pos hne], rfl, SlR.nil _ _⟩, kk4.fresh k5 fun y e => by have e' : y = b3 := e; omega⟩
  have hrf : eFault la ra vs = if ∃ p ∈ vs, p < 0 ∨ 16 ≤ p then 1 else 0 := by unfold eFault; rw [if_neg (by omega)]
  have o34 := o3.kp k4
  have hv4 := hv.kp kk4
  unfold Z4.l16
  refine LoopT.rule (fun m s0 H5 => ∃ i : Nat, i ≤ vs.length ∧ m = vs.length - i ∧ s0 = (sv, .ptr (some (b1, 0)), .ptr (some (b3, 0)), (i : Int), ()) ∧ H5 = H4 ∧ ∀ j p, j < i → vs[j]? = some p → 0 ≤ p ∧ p < 16) vs.length ⟨0, by omega, by omega, rfl, rfl, fun j p h => by omega⟩ ?_
  rintro m s0 H5 back ⟨i, hi, rfl, rfl, rfl, hall⟩ hback
  simp only [Z4.b16]
  refine LenS.of hv4 ?_
  rw [iRows_len]
  refine CondB.dec (fun hlt => ?_) fun hge => ?_
  · have hi' : i < vs.length := by omega
    obtain ⟨p, hp⟩ : ∃ b, vs[i]? = some b := ⟨_, List.getElem?_eq_getElem hi'⟩
    have hbad : (p < 0 ∨ 16 ≤ p) → Z4.p27 (fun H' ns root err => ERes H H' (eFault la ra vs) (exL (natsOf vs) (dVal la ra)) ns root err ∧ Kp H H') back sv (.ptr (some (b1, 0))) (.ptr (some (b3, 0))) (i : Int) true H5 := by
      intro hb
      rw [if_pos ⟨p, List.mem_of_getElem? hp, hb⟩] at hrf
      unfold Z4.p27
      refine CondB.pos rfl (Sto.own o34 (Nat.le_refl 2) fun H6 o6 k6 hs6 => ?_)
      exact Ld.o2 o6 (.sl none 0 0 (some 0)) (0 : Int) rfl ⟨.inl ⟨by omega, hrf.symm, rfl, SlR.nil _ _⟩, kk4.fresh k6 fun y e => by have e' : y = b3 := e; omega⟩
    refine IA.of hv4 (by omega) (by rw [Int.toNat_natCast]; exact iRow_at hp) fun b o hld => ldRow hld ?_
    refine CondB.dec (fun h0 => hbad (.inl h0)) fun h0 => ?_
    refine IA.of hv4 (by omega) (by rw [Int.toNat_natCast]; exact iRow_at hp) fun b o hld => ldRow hld ?_
    by_cases h1 : 16 ≤ p
    · rw [decide_eq_true (show p ≥ 16 from h1)]
      exact hbad (.inr h1)
    · rw [decide_eq_false (show ¬ p ≥ 16 from h1)]
      unfold Z4.p27
      refine CondB.neg rfl (hback (vs.length - (i + 1)) _ _ (by omega) ⟨i + 1, by omega, rfl, ?_, rfl, fun j q hj hq => ?_⟩)
      · exact tc rfl (tc rfl (tc rfl (tc ((wrap64 (by omega) (by omega)).trans (by omega)) rfl)))
      · by_cases hji : j = i
        · subst hji
          rw [hp] at hq
          cases hq
          omega
        · exact hall j q (by omega) hq
  have hil : i = vs.length := by omega
  subst hil
  have hok : ∀ p ∈ vs, 0 ≤ p ∧ p < 16 := fun p hp => by
    obtain ⟨j, hj, e⟩ := List.getElem_of_mem hp
    exact hall j p hj (by rw [List.getElem?_eq_getElem hj, e])
  rw [if_neg (by rintro ⟨p, hp, h⟩; have := hok p hp; omega)] at hrf
  obtain ⟨x, hx, hxl, rfl, rfl, hval⟩ := dTree he
  have hev : exL (natsOf vs) (dVal (rowsOf x) (ref (ser x []) x)) = exL (natsOf vs) x.eval := by
    have : dVal (rowsOf x) (ref (ser x []) x) = x.eval := funext hval
    rw [this]
  rw [hev, hrf]
  refine Ld.o2 ((o1.kp k3).kp k4) sa (ref (ser x []) x) rfl (RunT.imp ?_ (DiagramTable_c hx (ha.kp kk4)))
  rintro H6 (r : AC) ⟨⟨tb, cap, rfl, hot, htb⟩, k6⟩
  obtain ⟨N, hN⟩ : ∃ N : Nat, N = 65536 := ⟨_, rfl⟩
  obtain ⟨T, hT⟩ : ∃ T : Nat → List AC, ∀ i, T i = (tabOf (exL (natsOf (vs.take i)) x.eval)).map AC.bool := ⟨fun i => (tabOf (exL (natsOf (vs.take i)) x.eval)).map AC.bool, fun _ => rfl⟩
  have hg : ∀ i, ∀ ρ ρ' : Nat → Bool, (∀ v, v < 16 → ρ v = ρ' v) → exL (natsOf (vs.take i)) x.eval ρ = exL (natsOf (vs.take i)) x.eval ρ' := fun i => exL_congr16 fun ρ ρ' h => eval_congr16 h x hx
  have hcell : ∀ i j, j < N → (T i)[j]? = some (.bool (exL (natsOf (vs.take i)) x.eval (rho j))) := fun i j hj => by rw [hT]; exact tab_cell (by omega)
  have hT0 : (tabOf x.eval).map AC.bool = T 0 := by rw [hT]; rfl
  rw [hT0] at hot
  have hclr := fun (w : Nat) (hw : w < 16) (i : Nat) (hi : i < N) => clr_idx (i := i) (w := w) (by omega) hw
  have hset := fun (w : Nat) (hw : w < 16) (i : Nat) (hi : i < N) => set_idx (i := i) (w := w) (by omega) hw
  rw [← hN] at hclr hset
  rw [show (65536 : Nat) = N from hN.symm]
  unfold Z4.l39
  refine LoopT.rule (fun m s0 H7 => ∃ (i tb : Nat) (cap : Option Nat), i ≤ vs.length ∧ m = vs.length - i ∧ s0 = (sv, .ptr (some (b3, 0)), .sl (some (tb, 0)) 1 N cap, (i : Int), ()) ∧ Kp H5 H7 ∧ Own H7 tb (T i)) vs.length ⟨0, tb, cap, by omega, by omega, rfl, k6, hot⟩ ?_
  clear hback hot htb hT0
  rintro m s0 H7 back2 ⟨i, tb, cap, hi, rfl, rfl, k7, hot⟩ hback
  simp only [Z4.b39]
  have kk7 := kk4.trans k7
  refine LenS.of (hv.kp kk7) ?_
  rw [iRows_len]
  refine CondB.dec (fun hlt => ?_) fun hge => ?_
  · have hi' : i < vs.length := by omega
    obtain ⟨p, hp⟩ : ∃ b, vs[i]? = some b := ⟨_, List.getElem?_eq_getElem hi'⟩
    have hpr := hok p (List.mem_of_getElem? hp)
    obtain ⟨w, rfl⟩ : ∃ w : Nat, p = w := ⟨p.toNat, by omega⟩
    have hw : w < 16 := by omega
    have hnx : ∀ ρ, exL (natsOf (vs.take (i + 1))) x.eval ρ = (exL (natsOf (vs.take i)) x.eval (setA ρ w false) || exL (natsOf (vs.take i)) x.eval (setA ρ w true)) := fun ρ => by
      rw [natsOf_take hp, exL_snoc]
    have hclr := hclr w hw
    have hset := hset w hw
    refine IA.of (hv.kp kk7) (by omega) (by rw [Int.toNat_natCast]; exact iRow_at hp) fun b o hld => ldRow hld ?_
    refine GE0.mk ?_ (LenS.mk ?_)
    · have e : IntKind.wrap .i64 (15 - (w : Int)) = ((15 - w : Nat) : Int) := (wrap64 (by omega) (by omega)).trans (by omega)
      rw [e]; omega
    rw [mask_eq hw]
    refine MkS.own (n := N) (by omega) (by omega) fun cb H8 hcb hs8 oc k8 => ?_
    have hotl := hot.lt
    obtain ⟨B, hB⟩ : ∃ B : Int, B = ((2 ^ (15 - w) : Nat) : Int) := ⟨_, rfl⟩
    rw [← hB] at hclr hset ⊢
    unfold Z4.l56
    refine LoopT.rule (fun m s0 H9 => ∃ (k : Nat) (cs : List AC), k ≤ N ∧ m = N - k ∧ s0 = (sv, .ptr (some (b3, 0)), .sl (some (tb, 0)) 1 N cap, (i : Int), B, .sl (some (cb, 0)) 1 N (some N), (k : Int), ()) ∧ Kp H7 H9 ∧ Own H9 cb cs ∧ cs.length = N ∧
      (∀ j, j < k → cs[j]? = some (.bool (exL (natsOf (vs.take (i + 1))) x.eval (rho j))))) N ⟨0, _, by omega, by omega, rfl, k8, oc, List.length_replicate, fun j h => by omega⟩ ?_
    rintro m s0 H9 back3 ⟨k, cs, hk, rfl, rfl, k9, oc9, hcl, hlo⟩ hback3
    simp only [Z4.b56]
    refine LenS.mk (CondB.dec (fun hlt2 => ?_) fun hge2 => ?_)
    · have hk' : k < N := by omega
      have put : ∀ (c : Bool), c = exL (natsOf (vs.take (i + 1))) x.eval (rho k) → IA 1 (.sl (some (cb, 0)) 1 N (some N)) (k : Int) fun q_6 => Sto H9 q_6 [(.bool c)] fun H_7 =>
          back3 (sv, .ptr (some (b3, 0)), .sl (some (tb, 0)) 1 N cap, (i : Int), B, .sl (some (cb, 0)) 1 N (some N), IntKind.wrap .i64 ((k : Int) + 1), ()) H_7 := by
        intro c hc
        refine IA.mk (by omega) (by omega) ?_
        refine Sto.cell oc9 (by rw [hcl]; omega) fun H10 oc10 k10 hs10 => ?_
        refine hback3 (N - (k + 1)) _ _ (by omega) ⟨k + 1, _, by omega, rfl, ?_, k9.fresh k10 fun y e => by have e' : y = cb := e; omega, oc10, by rw [List.length_set, hcl], fun j hj => ?_⟩
        · exact tc rfl (tc rfl (tc rfl (tc rfl (tc rfl (tc rfl (tc ((wrap64 (by omega) (by omega)).trans (by omega)) rfl))))))
        · simp only [Int.toNat_natCast, Nat.mul_one, Nat.zero_add]
          by_cases hji : j = k
          · subst hji; rw [List.getElem?_set_self (by omega), hc]
          · rw [List.getElem?_set_ne (by omega)]; exact hlo j (by omega)
      obtain ⟨j, e1, e2, e3⟩ := hclr k hk'
      rw [e1]
      refine IA.mk (by omega) (by omega) (Ld.ob (hot.kp k9) (by rw [Nat.zero_add, Nat.mul_one, Int.toNat_natCast]; exact hcell i j e2) ?_)
      have c1 := hg i _ _ e3
      refine CondB.mk (fun ht => ?_) fun ht => ?_
      · refine put true ?_
        rw [hnx, ← c1, ht, Bool.true_or]
      · obtain ⟨j2, f1, f2, f3⟩ := hset k hk'
        rw [f1]
        refine IA.mk (by omega) (by omega) (Ld.ob (hot.kp k9) (by rw [Nat.zero_add, Nat.mul_one, Int.toNat_natCast]; exact hcell i j2 f2) ?_)
        have c2 := hg i _ _ f3
        refine put _ ?_
        rw [hnx, ← c1, ht, Bool.false_or, ← c2]
    · have hkN : k = N := by omega
      have hcs : cs = T (i + 1) := by rw [hT]; exact tab_cells (by omega) fun j hj => hlo j (by omega)
      rw [hcs] at oc9
      refine hback (vs.length - (i + 1)) _ _ (by omega) ⟨i + 1, cb, some N, by omega, rfl, ?_, k7.trans k9, oc9⟩
      exact tc rfl (tc rfl (tc rfl (tc ((wrap64 (by omega) (by omega)).trans (by omega)) rfl)))
  · have hil : i = vs.length := by omega
    subst hil
    rw [hT, List.take_length] at hot
    have hg' := hg vs.length
    rw [List.take_length] at hg'
    rw [hN]
    refine RunT.imp ?_ (OfTable_e hot hg')
    rintro H8 (ns : AC) (root : Int) (err : Int) ⟨hres, k8⟩
    have hz7 := kk7.size
    have h57 := k7.size
    refine Sto.own ((o34.kp k7).kp k8) (Nat.le_refl 2) fun H9 o9 k9 hs9 => Ld.o2 o9 ns root rfl ⟨?_, (kk7.trans k8).fresh k9 fun y e => by have e' : y = b3 := e; omega⟩
    exact (hres.keep k9 fun y e => by have e' : y = b3 := e; omega).from hz7
end Go.Proofs.Ytanaaabejeeakaa
end
section
namespace Go.AI
theorem slr_none (H : AHeap) (sz : Nat) : SlR H (.sl none 0 0 (some 0)) sz [] := ⟨Option.none, 0, some 0, rfl, fun i r h => by simp at h⟩
theorem good_i {D : Type} {P : Program} {H : AHeap} {n : Nat} {t : TypeId} {k : IntKind} {cs : List AC} {d : DataW D} (hu : P.underlying t = some (.int k)) (h : AI.Good P H n t cs d) : ∃ i, cs = [.int k i] ∧ (Lit.int k i).wf = true := by
  cases n with
  | zero => exact h.elim
  | succ n =>
    simp only [AI.Good, goodStep, hu] at h
    obtain ⟨i, h1, _, h3⟩ := h
    exact ⟨i, h1, h3⟩
theorem good_sl {D : Type} {P : Program} {H : AHeap} {n : Nat} {t e : TypeId} {cs : List AC} {d : DataW D} (hu : P.underlying t = some (.slice e)) (h : AI.Good P H n t cs d) :
    (cs = [.sl none 0 0 (some 0)] ∧ d = .nil) ∨ ∃ m b ds rest cells, n = m + 1 ∧ cs = [.sl (some (b, 0)) (P.cellsOf e) ds.length none] ∧ d = .slice ds rest ∧ H.get b = some (.row e b 0 true (cells.map some)) ∧
        goodL (AI.Good P H m) e (P.cellsOf e) cells ds ∧ ds.length ≤ maxLen := by
  cases n with
  | zero => exact h.elim
  | succ n =>
    simp only [AI.Good, goodStep, hu] at h
    rcases h with h | ⟨b, ds, rest, cells, h1, h2, h3, h4, h5, _⟩
    · exact .inl h
    · exact .inr ⟨n, b, ds, rest, cells, rfl, h1, h2, h3, h4, h5⟩
theorem goodL_rows {D α : Type} {good : TypeId → List AC → DataW D → Prop} {e k : Nat} {enc : α → List AC} {R : α → Prop} (elt : ∀ cs d, good e cs d → ∃ a, cs = enc a ∧ R a) : ∀ (ds : List (DataW D)) (cells : List AC), goodL good e k cells ds → ∃ l : List α, l.length = ds.length ∧ cells = (l.map enc).flatten ∧ ∀ a ∈ l, R a
  | [], cells, h => ⟨[], rfl, h, fun _ h => by cases h⟩
  | d :: ds, cells, h => by
    obtain ⟨h1, h2⟩ := h
    obtain ⟨a, e1, ra⟩ := elt _ _ h1
    obtain ⟨l, g1, g2, g3⟩ := goodL_rows elt ds _ h2
    refine ⟨a :: l, by simp [g1], ?_, fun x hx => ?_⟩
    · rw [List.map_cons, List.flatten_cons, ← g2, ← e1, List.take_append_drop]
    · rcases List.mem_cons.1 hx with rfl | hx
      · exact ra
      · exact g3 x hx
end Go.AI
end
section
namespace Go.Proofs.Ytanaaabejeeakaa
open Go.AI Go.AI.DT
theorem law7_c {ra v bit : Int} {sa sv : AC} {la : List NRow} {vs : List Int} {H : AHeap} (ha : SlR H sa 3 (nodeRows la)) (hv : SlR H sv 1 (iRows vs)) (hw : GW H) (hl : vs.length ≤ 1048576) :
    Fn.Z0 sa ra v bit sv H fun H' q => q = true ∧ Kp H H' := by
  refine Z0.run ?_
  unfold Z0.W
  refine New.own fun b1 H1 hb1 hs1 o1 k1 => Ld.o2 o1 sa ra rfl (RunT.imp ?_ (Restrict_c (ha.kp k1)))
  rintro H3 (n1 : AC) (r1 : Int) (e1 : Int) ⟨res1, k3⟩
  refine NewSto.own rfl fun c1 H4 hc1 hs4 w1 k4 => ?_
  have k14 := k3.trans k4
  have kk4 := k1.trans k14
  refine Ld.o2 (o1.kp k14) sa ra rfl (RunT.imp ?_ (Restricted_c (ha.kp kk4)))
  rintro H5 (n2 : AC) (r2 : Int) (e2 : Int) ⟨res2, k5⟩
  refine NewSto.own rfl fun c2 H6 hc2 hs6 w2 k6 => ?_
  have k46 := k5.trans k6
  have k16 := k14.trans k46
  have kk6 := k1.trans k16
  refine Ld.o2 (o1.kp k16) sa ra rfl (RunT.imp ?_ (Exists_c (ha.kp kk6) (hv.kp kk6) (kk6.gw.1 hw) (by omega) (by omega)))
  rintro H7 (n3 : AC) (r3 : Int) (e3 : Int) ⟨res3, k7⟩
  refine NewSto.own rfl fun c3 H8 hc3 hs8 w3 k8 => ?_
  have k68 := k7.trans k8
  have k18 := k16.trans k68
  have kk8 := k1.trans k18
  refine Ld.o2 (o1.kp k18) sa ra rfl (RunT.imp ?_ (Existing_c (ha.kp kk8) (hv.kp kk8) (by omega)))
  rintro H9 (n4 : AC) (r4 : Int) (e4 : Int) ⟨res4, k9⟩
  refine NewSto.own rfl fun c4 H10 hc4 hs10 w4 k10 => ?_
  have k810 := k9.trans k10
  have k4_10 := k46.trans (k68.trans k810)
  have k6_10 := k68.trans k810
  obtain ⟨he12, hr12, l, hl, t1, t2⟩ := (res1.kp (k4.trans k4_10)).same (res2.kp (k6.trans k6_10)) fun _ ρ => rfl
  obtain ⟨he34, hr34, l', hl', t3, t4⟩ := (res3.kp (k8.trans k810)).same (res4.kp k10) fun _ ρ => rfl
  refine CondB.pos (by rw [he12]; simp) (CondB.pos (by rw [he34]; simp) ?_)
  refine Ld.o2 (w1.kp k4_10) n1 r1 rfl (Ld.o2 (w2.kp k6_10) n2 r2 rfl (RunT.imp ?_ (SameDiagram_c t1 t2 (by omega))))
  rintro H11 q ⟨rfl, k11⟩
  refine CondB.pos (by simp [hr12]) (Ld.o2 ((w3.kp k810).kp k11) n3 r3 rfl (Ld.o2 (w4.kp k11) n4 r4 rfl (RunT.imp ?_ (SameDiagram_c (t3.kp k11) (t4.kp k11) (by omega)))))
  rintro H12 q ⟨rfl, k12⟩
  refine CondB.pos (by simp [hr34]) (RunT.imp ?_ built_c)
  rintro H13 q ⟨rfl, k13⟩
  exact ⟨rfl, (((kk8.trans k810).trans k11).trans k12).trans k13⟩
theorem bulk_pos {D : Type} : ∀ d : DataW D, 1 ≤ Rows.uptoBulk d
  | .lit l => by cases l <;> simp [Rows.uptoBulk]
  | .nil => by simp [Rows.uptoBulk]
  | .ptr _ => by simp [Rows.uptoBulk]
  | .slice _ _ => by simp [Rows.uptoBulk]
  | .agg _ => by simp [Rows.uptoBulk]
  | .iface _ _ => by simp [Rows.uptoBulk]
  | .map _ => by simp [Rows.uptoBulk]
  | .held _ => by simp [Rows.uptoBulk]
theorem bulk_len {D : Type} : ∀ ds : List (DataW D), ds.length ≤ Rows.uptoBulkAll ds
  | [] => Nat.zero_le _
  | d :: ds => by
    have := bulk_pos d
    have := bulk_len ds
    simp only [Rows.uptoBulkAll, List.length_cons]
    omega
theorem cells3 : Try.prog.cellsOf 3 = 1 := by decide +kernel
theorem good_ints {D : Type} {H : AHeap} {n : Nat} {cs : List AC} {d : DataW D} (h : AI.Good Try.prog H n 53 cs d) : ∃ (s : AC) (l : List Int), cs = [s] ∧ SlR H s 1 (iRows l) ∧ l.length ≤ Rows.uptoBulk d := by
  rcases good_sl Try.underlying53 h with ⟨rfl, rfl⟩ | ⟨m, b, ds, rest, cells, rfl, rfl, rfl, hg, hl, hm⟩
  · exact ⟨_, [], rfl, slr_none _ _, by simp⟩
  · rw [cells3] at hl ⊢
    obtain ⟨l, e1, rfl, _⟩ := goodL_rows (enc := fun x : Int => [AC.int .i64 x]) (R := fun _ => True) (fun cs d hc => by
      obtain ⟨i, e, _⟩ := good_i Try.underlying3 hc
      exact ⟨i, e, trivial⟩) ds cells hl
    have hb := bulk_len ds
    refine ⟨_, l, rfl, ⟨some (b, 0), 1, Option.none, by rw [iRows_len, e1], fun i r hr => ⟨rfl, b, 0, rfl, ?_⟩⟩, by simp only [Rows.uptoBulk]; omega⟩
    have hlt := (List.getElem?_eq_some_iff.1 hr).1
    have hall : ∀ r ∈ iRows l, r.length = 1 := by
      intro r hr
      obtain ⟨x, _, rfl⟩ := List.mem_map.1 hr
      rfl
    have hfl := flatten_len hall
    have hm' : (i + 1) * 1 ≤ (iRows l).length * 1 := Nat.mul_le_mul_right _ (by omega)
    rw [Nat.zero_add, load_of hg (by show i * 1 + 1 ≤ (iRows l).flatten.length; omega)]
    exact congrArg some (flatten_row hall hr)
def simpleTs7 : List TypeId := [24, 22, 3, 27, 25, 77, 53]
theorem simple_ok7 : ∀ t ∈ simpleTs7, AI.simpleT Try.prog simpleTs7 t = true := by
  have h : simpleTs7.all (AI.simpleT Try.prog simpleTs7) = true := by decide +kernel
  exact List.all_eq_true.1 h
end Go.Proofs.Ytanaaabejeeakaa
end
