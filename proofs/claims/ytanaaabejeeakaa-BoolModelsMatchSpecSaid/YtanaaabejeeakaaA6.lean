/- Joined by a program: what the proof of the law leans on, part 6. -/
import Derived.Test.YtanaaabejeeakaaA5
import Derived.Test.YtanaaabejeeakaaRows
import Derived.WalkKit
import Derived.ProofKit
import Derived.OpenShut
import Derived.JoinedCond
import Derived.Below
import Derived.ChangeSame
set_option linter.unusedVariables false
set_option linter.unusedSimpArgs false
section
/- The diagram of a small formula; the law of Build. -/
namespace Go.Proofs.Ytanaaabejeeakaa
open Go.AI Go.AI.DT

/-- The written form of a tree's nodes. -/
abbrev rowsOf (x : DT) : List NRow := (ser x []).map (row (ser x []))

def smallF : Fm := .mk 4 0 [.mk 1 0 [], .mk 1 2 []]
def smallT : DT := nd 0 (leaf false) (nd 2 (leaf false) (leaf true))
theorem smallT_ro : smallT.RO := ⟨by omega, by simp, by simp [top], by simp [top], trivial, by omega, by simp, by simp [top], by simp [top], trivial, trivial⟩
theorem small_eval (ρ : Nat → Bool) : smallT.eval ρ = smallF.val ρ := by
  simp only [smallT, smallF, eval, Fm.val, Fm.vals]
  cases h0 : ρ 0 <;> cases h2 : ρ 2 <;> simp [h0, h2]
theorem small_fault : boolFaultOf smallF = 0 := by
  simp [boolFaultOf, smallF, Fm.size, Fm.sizes, Fm.fault, Fm.faults, Fm.want, Fm.most]
theorem small_rows : rowsOf smallT = [(2, -1, -2), (0, -1, 0)] ∧ ref (ser smallT []) smallT = 1 ∧ cnt 3 0 smallT = 2 := by
  refine ⟨?_, ?_, ?_⟩ <;> decide

theorem BRes.tree {H0 H : AHeap} {f : Fm} {ns : AC} {root err : Int} {t : DT} (h : BRes H0 H f ns root err) (h0 : boolFaultOf f = 0) (hr : t.RO) (he : ∀ ρ, t.eval ρ = f.val ρ) : DRes H t ns root err := by
  rcases h with ⟨h1, _⟩ | ⟨_, x, hx, hev, hd⟩
  · exact absurd h0 h1
  · have : x = t := canon' hx hr fun ρ => (hev ρ).trans (he ρ).symm
    subst this
    exact hd.res

theorem built_c {H : AHeap} : Fn.fetterlocklaw6_built H fun H' q => q = true ∧ Kp H H' := by
  refine fetterlocklaw6_built.run ?_
  unfold fetterlocklaw6_built.W
  refine NewSto.own rfl fun b1 H1 hb1 hs1 o1 k1 => NewSto.own rfl fun b2 H2 hb2 hs2 o2 k2 => ?_
  refine Ld.o3 (o1.kp k2) (1 : Int) (0 : Int) (.sl none 0 0 (some 0)) rfl (Ld.o3 o2 (1 : Int) (2 : Int) (.sl none 0 0 (some 0)) rfl ?_)
  refine NewS.own fun b3 H3 hb3 hs3 o3 k3 => ?_
  have kk := (k1.trans k2).trans k3
  have hf : FmB H3.size H3 4 0 (.sl (some (b3, 0)) 3 2 (some 2)) smallF := by
    have leafF : ∀ v : Int, FmB H3.size H3 1 v (.sl none 0 0 (some 0)) (.mk 1 v []) := fun v =>
      .mk [] rfl (SlR.nil _ _) (fun b o z m cap e => by cases e) fun i r k h => by simp at h
    refine .mk [(1, 0, .sl none 0 0 (some 0)), (1, 2, .sl none 0 0 (some 0))] rfl ?_ (fun b o z m cap e => ?_) ?_
    · refine ⟨some (b3, 0), 3, some 2, rfl, fun i r hr => ⟨rfl, b3, 0, rfl, ?_⟩⟩
      match i with
      | 0 => simp at hr; subst hr; exact o3.load (o := 0) (n := 3) (by simp)
      | 1 => simp at hr; subst hr; exact o3.load (o := 3) (n := 3) (by simp)
      | i + 2 => simp at hr
    · cases e; have := o3.lt; omega
    · intro i r k hr hk
      match i with
      | 0 => simp at hr hk; subst hr hk; exact leafF 0
      | 1 => simp at hr hk; subst hr hk; exact leafF 2
      | i + 2 => simp at hr
  refine RunT.imp ?_ (Build_c (f := smallF) (by simp [smallF, Fm.size, Fm.sizes]) hf)
  rintro H4 ns root err ⟨hres, k4⟩
  have hd := hres.tree small_fault smallT_ro small_eval
  obtain ⟨r1, r2, r3⟩ := small_rows
  have hl : (ser smallT []).length = 2 := by decide
  rcases hd with ⟨hbig, _⟩ | ⟨_, rfl, rfl, hsl⟩
  · omega
  have hsl' : SlR H4 ns 3 (nodeRows [(2, -1, -2), (0, -1, 0)]) := by rw [← r1]; exact hsl
  refine NewSto.own rfl fun b5 H5 hb5 hs5 o5 k5 => CondB.neg rfl (FA.mk (Ld.oi o5 rfl ?_))
  have kk5 := (kk.trans k4).trans k5
  refine CondB.neg (by rw [r2]; rfl) (FA.mk (Ld.oc o5 rfl (LenS.of (hsl'.kp k5) ?_)))
  unfold fetterlocklaw6_built.p11
  refine CondB.neg rfl (Ld.o2 o5 ns (ref (ser smallT []) smallT) rfl ?_)
  refine RunT.imp ?_ (Count_c (n := 3) smallT_ro (hsl.kp k5) (by omega) (by omega) ⟨by omega, trivial, by omega, trivial, trivial⟩)
  rintro H6 q e ⟨rfl, rfl, k6⟩
  rw [r3]
  have hsl6 := (hsl'.kp k5).kp k6
  refine FA.mk (Ld.oc (o5.kp k6) rfl (IA.of hsl6 (by omega) (r := nodeCells (2, -1, -2)) rfl fun b o hld => Ld.a3 hld (2 : Int) (-1 : Int) (-2 : Int) rfl rfl (CondB.pos rfl ?_)))
  refine FA.mk (Ld.oc (o5.kp k6) rfl (IA.of hsl6 (by omega) (r := nodeCells (0, -1, 0)) rfl fun b o hld => Ld.a3 hld (0 : Int) (-1 : Int) (0 : Int) rfl rfl (CondB.pos rfl (CondB.pos rfl ⟨rfl, kk5.trans k6⟩))))

theorem _root_.Go.AI.FmB.wide {n n' : Nat} {H : AHeap} (hn : n ≤ n') {op var : Int} {s : AC} {f : Fm} (h : FmB n H op var s f) : FmB n' H op var s f := by
  induction h with
  | mk rows hl hs hb _ ih => exact .mk rows hl hs (fun b o z m cap e => Nat.lt_of_lt_of_le (hb b o z m cap e) hn) ih

/-- The table of a function. -/
def tabOf (g : (Nat → Bool) → Bool) : List Bool := (List.range 65536).map fun i => g (rho i)
theorem tabOf_get (g : (Nat → Bool) → Bool) (i : Nat) (hi : i < 65536) : (tabOf g)[i]? = some (g (rho i)) := by
  unfold tabOf
  rw [List.getElem?_map, List.getElem?_range hi]
  rfl
theorem DRes.same {H : AHeap} {x : DT} {ns ns' : AC} {r r' e e' : Int} (h : DRes H x ns r e) (h' : DRes H x ns' r' e') : e = e' ∧ r = r' ∧ ∃ l : List NRow, l.length ≤ 2000 ∧ SlR H ns 3 (nodeRows l) ∧ SlR H ns' 3 (nodeRows l) := by
  rcases h with ⟨a, rfl, rfl, d⟩ | ⟨a, rfl, rfl, d⟩ <;> rcases h' with ⟨a', rfl, rfl, d'⟩ | ⟨a', rfl, rfl, d'⟩
  · exact ⟨rfl, rfl, [], by simp, d, d'⟩
  · omega
  · omega
  · exact ⟨rfl, rfl, _, by rw [List.length_map]; exact a, d, d'⟩

end Go.Proofs.Ytanaaabejeeakaa
end
section
/- From what came in to formulas and diagrams asx they lie in memory. -/
namespace Go.Proofs.Ytanaaabejeeakaa
open Go.AI

theorem good_int {D : Type} {P : Program} {H : AHeap} {n : Nat} {t : TypeId} {k : IntKind} {cs : List AC} {d : DataW D} (hu : P.underlying t = some (.int k)) (h : AI.Good P H n t cs d) : ∃ i, cs = [.int k i] ∧ d = .lit (.int k i) ∧ (Lit.int k i).wf = true := by
  cases n with
  | zero => exact h.elim
  | succ n => simp only [AI.Good, goodStep, hu] at h; exact h
theorem good_struct {D : Type} {P : Program} {H : AHeap} {n : Nat} {t : TypeId} {fs : Array Field} {cs : List AC} {d : DataW D} (hu : P.underlying t = some (.struct fs)) (h : AI.Good P H n t cs d) : ∃ m ds, n = m + 1 ∧ d = .agg ds ∧ goodF P (AI.Good P H m) fs.toList cs ds := by
  cases n with
  | zero => exact h.elim
  | succ n => simp only [AI.Good, goodStep, hu] at h; obtain ⟨ds, h1, h2⟩ := h; exact ⟨n, ds, rfl, h1, h2⟩
theorem good_slice {D : Type} {P : Program} {H : AHeap} {n : Nat} {t e : TypeId} {cs : List AC} {d : DataW D} (hu : P.underlying t = some (.slice e)) (h : AI.Good P H n t cs d) :
    (cs = [.sl none 0 0 (some 0)] ∧ d = .nil) ∨ ∃ m b ds rest cells, n = m + 1 ∧ cs = [.sl (some (b, 0)) (P.cellsOf e) ds.length none] ∧ d = .slice ds rest ∧ H.get b = some (.row e b 0 true (cells.map some)) ∧
        goodL (AI.Good P H m) e (P.cellsOf e) cells ds ∧ ds.length ≤ maxLen := by
  cases n with
  | zero => exact h.elim
  | succ n =>
    simp only [AI.Good, goodStep, hu] at h
    rcases h with h | ⟨b, ds, rest, cells, h1, h2, h3, h4, h5, _⟩
    · exact .inl h
    · exact .inr ⟨n, b, ds, rest, cells, rfl, h1, h2, h3, h4, h5⟩
theorem goodF_cons {D : Type} {P : Program} {good : TypeId → List AC → DataW D → Prop} {f : Field} {fs : List Field} {cs : List AC} {ds : List (DataW D)} (h : goodF P good (f :: fs) cs ds) :
    ∃ d ds' a b, ds = d :: ds' ∧ cs = a ++ b ∧ good f.type a d ∧ goodF P good fs b ds' := by
  cases ds with
  | nil => exact h.elim
  | cons d ds' => exact ⟨d, ds', cs.take (P.cellsOf f.type), cs.drop (P.cellsOf f.type), rfl, (List.take_append_drop ..).symm, h.1, h.2⟩
theorem goodF_nil {D : Type} {P : Program} {good : TypeId → List AC → DataW D → Prop} {cs : List AC} {ds : List (DataW D)} (h : goodF P good [] cs ds) : ds = [] ∧ cs = [] := by
  cases ds with
  | nil => exact ⟨rfl, h⟩
  | cons d ds' => exact h.elim

theorem cells77 : Try.prog.cellsOf 77 = 3 := by decide +kernel

end Go.Proofs.Ytanaaabejeeakaa
end
section
/- The rows' last steps, shared. -/
namespace Go.Proofs.Ytanaaabejeeakaa
open Go.ChangeShapes Go.WideShapes Go.ChangeAt Go.RowKit
set_option linter.unusedVariables false

section
variable {H : Type} {enc : TypeId × Value → H} {P : Program}
theorem post_of_below {f : Func} {s : ChangeSpec} {apart fresh handsOn again : Bool} {W W' : World} {args : Array Value} {v : Value} {ds gs : List (DataW H)} {before pa pv : List MemPlace}
    (hW : DataW.Whole enc P f.params.toList s.vars apart W args.toList ds gs before)
    (hres : ∀ (b : Nat) (sp : Nat → Bool) (hd : Bool), DataW.TrodAll enc P W' b sp hd f.resultTypes.toList (v.resultList f.resultTypes.size) (s.fn H (ds ++ gs)).results [])
    (hargs : ∀ sp : Nat → Bool, (∀ p ∈ before, sp p.block = true) → DataW.TrodAll enc P W' 0 sp true f.params.toList args.toList (s.fn H (ds ++ gs)).args pa)
    (hvars : ∀ sp : Nat → Bool, (∀ p ∈ before, sp p.block = true) → DataW.TrodVars enc P W' sp s.vars (s.fn H (ds ++ gs)).vars pv)
    (hps : before = pa ++ pv) (hb : Below W.heap.size W W')
    (hok : ∀ (j : Nat) (t : TypeId) (r : Value), f.resultTypes[j]? = some t → (v.resultList f.resultTypes.size)[j]? = some r → Value.okWide P W' .any 0 t r) :
    s.post enc P f apart fresh handsOn again W args v W' := by
  have hlt : ∀ p ∈ before, p.block < W.heap.size := fun p hp => hW.lt p hp
  have hold : ∀ p ∈ before, (fun b => decide (b < W.heap.size)) p.block = true := fun p hp => by simpa using hlt p hp
  refine ⟨ds, gs, before, [], pa, pv, hW, hres _ _ _, hargs _ hold, hvars _ hold, World.keptBut_mono (fun p hp => ⟨hp, ?_⟩) (hb.frame (· ∈ before)), fun _ => ?_⟩
  · rw [hps, List.mem_append] at hp
    exact Or.inr hp
  · obtain ⟨_, _, _, _, _, hz, hn⟩ := hW
    refine ⟨hok, _, _, ([] ++ pa) ++ pv, ⟨[] ++ pa, pv, trodAll_append (hargs _ (fun _ _ => rfl)) (hres _ _ _), hvars _ (fun _ _ => rfl), rfl, ?_, ?_⟩, ?_⟩
    · intro b off hp
      have hin : MemPlace.cell b off ∈ before := by rw [hps]; simpa using hp
      rw [hb.frozen (hlt _ hin)]
      exact hz b off hin
    · intro ha
      have := hn ha
      rw [hps] at this
      simpa using this
    · intro p hp _
      rw [hps]
      simpa using hp
end

theorem own : ownKnob Try.prog.godebug = none := by kernel_rfl
theorem names_ok : AI.NamesOk Try.prog := by
  have h : Try.prog.funcs.toList.all (fun fn => !(fn.name == "runtime.NumGoroutine")) = true := by decide +kernel
  intro f fn hf
  have hm : fn ∈ Try.prog.funcs.toList := by
    rw [Array.mem_toList_iff]
    exact Array.mem_of_getElem? hf
  have := List.all_eq_true.1 h fn hm
  simpa using this
theorem mixed : Try.prog.follows .mixedOrders = true := by kernel_rfl
theorem laid_out : laidOutB Try.prog = true := by kernel_rfl
def simpleTs : List TypeId := [24, 22, 3, 27, 25, 77]
theorem simple_ok : ∀ t ∈ simpleTs, AI.simpleT Try.prog simpleTs t = true := by
  have h : simpleTs.all (AI.simpleT Try.prog simpleTs) = true := by decide +kernel
  exact List.all_eq_true.1 h
end Go.Proofs.Ytanaaabejeeakaa
namespace Go.Proofs.Ytanaaabejeeakaa
open Go.AI
theorem gargs_cons {D : Type} {P : Program} {H : AHeap} {t : TypeId} {ts : List TypeId} {avs : List AV} {d : DataW D} {ds : List (DataW D)} (h : GoodArgs P H (t :: ts) avs (d :: ds)) :
    ∃ a rest n cs, avs = a :: rest ∧ AI.Good P H n t cs d ∧ a = avOf P t cs ∧ GoodArgs P H ts rest ds := by
  cases avs with
  | nil => exact h.elim
  | cons a rest =>
    obtain ⟨⟨n, cs, h1, h2⟩, h3⟩ := h
    exact ⟨a, rest, n, cs, rfl, h1, h2, h3⟩
theorem gargs_nil {D : Type} {P : Program} {H : AHeap} {avs : List AV} (h : GoodArgs (D := D) P H [] avs []) : avs = [] := by
  cases avs with
  | nil => rfl
  | cons a rest => exact h.elim

/-- Rows of nodes asx they came in. -/
theorem dg_list {D : Type} {H : AHeap} {n : Nat} : ∀ (ds : List (DataW D)) (cells : List AC), goodL (AI.Good Try.prog H n) 77 3 cells ds → ∃ l : List NRow, l.length = ds.length ∧ cells = (nodeRows l).flatten
  | [], cells, h => ⟨[], rfl, h⟩
  | d :: ds, cells, h => by
    obtain ⟨h1, h2⟩ := h
    obtain ⟨m, ds', rfl, rfl, hF⟩ := good_struct Try.underlying77 h1
    obtain ⟨d1, ds1, a1, b1, rfl, e1, g1, hF⟩ := goodF_cons hF
    obtain ⟨d2, ds2, a2, b2, rfl, rfl, g2, hF⟩ := goodF_cons hF
    obtain ⟨d3, ds3, a3, b3, rfl, rfl, g3, hF⟩ := goodF_cons hF
    obtain ⟨rfl, rfl⟩ := goodF_nil hF
    obtain ⟨x, rfl, _⟩ := good_int Try.underlying3 g1
    obtain ⟨y, rfl, _⟩ := good_int Try.underlying3 g2
    obtain ⟨z, rfl, _⟩ := good_int Try.underlying3 g3
    obtain ⟨l, e2, e3⟩ := dg_list ds _ h2
    refine ⟨(x, y, z) :: l, by simp [e2], ?_⟩
    show cells = [.int .i64 x, .int .i64 y, .int .i64 z] ++ (nodeRows l).flatten
    rw [← e3]
    have : cells.take 3 = [.int .i64 x, .int .i64 y, .int .i64 z] := by rw [e1]; rfl
    rw [← this, List.take_append_drop]
theorem good_dg {D : Type} {H : AHeap} (n : Nat) (cs : List AC) (d : DataW D) (h : AI.Good Try.prog H n 27 cs d) : ∃ s r l, cs = [s, .int .i64 r] ∧ SlR H s 3 (nodeRows l) := by
  obtain ⟨m, ds, rfl, rfl, hF⟩ := good_struct Try.underlying27 h
  obtain ⟨d1, ds1, a1, b1, rfl, rfl, g1, hF⟩ := goodF_cons hF
  obtain ⟨d2, ds2, a2, b2, rfl, rfl, g2, hF⟩ := goodF_cons hF
  obtain ⟨rfl, rfl⟩ := goodF_nil hF
  obtain ⟨r, rfl, _⟩ := good_int Try.underlying3 g2
  rcases good_slice Try.underlying25 g1 with ⟨rfl, rfl⟩ | ⟨k, b, ds, rest, cells, rfl, rfl, rfl, hg, hl, _⟩
  · exact ⟨_, r, [], rfl, SlR.nil _ _⟩
  · rw [cells77] at hl ⊢
    obtain ⟨l, e1, rfl⟩ := dg_list ds cells hl
    refine ⟨_, r, l, rfl, some (b, 0), 3, none, by rw [nodeRows_len, e1], fun i r hr => ⟨rfl, b, 0, rfl, ?_⟩⟩
    have hlt := (List.getElem?_eq_some_iff.1 hr).1
    have hall : ∀ r ∈ nodeRows l, r.length = 3 := by
      intro r hr
      obtain ⟨x, _, rfl⟩ := List.mem_map.1 hr
      rfl
    have hfl := flatten_len hall
    have hm : (i + 1) * 3 ≤ (nodeRows l).length * 3 := Nat.mul_le_mul_right _ (by omega)
    rw [Nat.zero_add, load_of hg (by omega), flatten_row hall hr]
end Go.Proofs.Ytanaaabejeeakaa
end
section
/- Apply and Not. -/
namespace Go.Proofs.Ytanaaabejeeakaa
open Go.AI Go.AI.DT

/-- What an operation on diagrams answers: a fault, or the diagram of a function. -/
def ERes (H0 H : AHeap) (bad : Int) (g : (Nat → Bool) → Bool) (ns : AC) (root err : Int) : Prop :=
  (bad ≠ 0 ∧ err = bad ∧ root = 0 ∧ SlR H ns 3 []) ∨ (bad = 0 ∧ ∃ x : DT, x.RO ∧ (∀ ρ, x.eval ρ = g ρ) ∧ DResN H0 H x ns root err)
theorem emp {H H' : AHeap} {s : AC} {sz : Nat} (h : SlR H s sz []) : SlR H' s sz [] := by
  obtain ⟨a, z, cap, e, _⟩ := h.ex
  exact ⟨a, z, cap, e, fun i r hr => by simp at hr⟩
theorem ERes.keep {S : Nat → Prop} {H0 H H' : AHeap} {bad : Int} {g : (Nat → Bool) → Bool} {ns : AC} {root err : Int} (h : ERes H0 H bad g ns root err) (k : Keep S H H') (hS : ∀ y, S y → y < H0.size) : ERes H0 H' bad g ns root err := by
  rcases h with ⟨a, b, c, d⟩ | ⟨a, x, b, c, d⟩
  · exact .inl ⟨a, b, c, emp d⟩
  · exact .inr ⟨a, x, b, c, d.keep k hS⟩
theorem ERes.kp {H0 H H' : AHeap} {bad : Int} {g : (Nat → Bool) → Bool} {ns : AC} {root err : Int} (h : ERes H0 H bad g ns root err) (k : Kp H H') : ERes H0 H' bad g ns root err := h.keep k fun _ h => h.elim
theorem ERes.from {H0 H1 H : AHeap} {bad : Int} {g : (Nat → Bool) → Bool} {ns : AC} {root err : Int} (h : ERes H1 H bad g ns root err) (hs : H0.size ≤ H1.size) : ERes H0 H bad g ns root err := by
  rcases h with ⟨a, b, c, d⟩ | ⟨a, x, b, c, d⟩
  · exact .inl ⟨a, b, c, d⟩
  · exact .inr ⟨a, x, b, c, d.from hs⟩
theorem ERes.same {H0 H0' H : AHeap} {bad : Int} {g g' : (Nat → Bool) → Bool} {ns ns' : AC} {r r' e e' : Int} (h : ERes H0 H bad g ns r e) (h' : ERes H0' H bad g' ns' r' e') (hg : bad = 0 → ∀ ρ, g ρ = g' ρ) : e = e' ∧ r = r' ∧ ∃ l : List NRow, l.length ≤ 2000 ∧ SlR H ns 3 (nodeRows l) ∧ SlR H ns' 3 (nodeRows l) := by
  rcases h with ⟨a, rfl, rfl, d⟩ | ⟨a, x, b, c, d⟩ <;> rcases h' with ⟨a', rfl, rfl, d'⟩ | ⟨a', x', b', c', d'⟩
  · exact ⟨rfl, rfl, [], by simp, d, d'⟩
  · exact absurd a' a
  · exact absurd a a'
  · have : x = x' := canon' b b' fun ρ => (c ρ).trans ((hg a ρ).trans (c' ρ).symm)
    subst this
    exact d.res.same d'.res

/-- The function of a diagram. -/
def dVal (l : List NRow) (r : Int) (ρ : Nat → Bool) : Bool := (atR (bld l) r).eval ρ
end Go.Proofs.Ytanaaabejeeakaa
end
section
/- Not; the law that Apply follows the formulas. -/
namespace Go.Proofs.Ytanaaabejeeakaa
open Go.AI Go.AI.DT

/-- An answer without fault: its diagram is one that is taken, and has that function. -/
theorem ERes.diag {H0 H : AHeap} {bad : Int} {g : (Nat → Bool) → Bool} {ns : AC} {root err : Int} (h : ERes H0 H bad g ns root err) (he : err = 0) : bad = 0 ∧ ∃ l : List NRow, SlR H ns 3 (nodeRows l) ∧ dFault l root = 0 ∧ l.length ≤ 2000 ∧ ∀ ρ, dVal l root ρ = g ρ := by
  rcases h with ⟨a, b, _, _⟩ | ⟨a, x, b, c, d⟩
  · exact absurd (b.symm.trans he) a
  · rcases d.res with ⟨_, d2, _⟩ | ⟨d1, _, rfl, d4⟩
    · rw [d2] at he; cases he
    · have hcan : CanonD (rowsOf x) (ref (ser x []) x) := ⟨x, b, rfl, rfl⟩
      have hl : (rowsOf x).length ≤ 2000 := by rw [List.length_map]; exact d1
      refine ⟨a, _, d4, dFault_zero hl hcan, hl, fun ρ => ?_⟩
      unfold dVal
      rw [bld_rows (ser_seq x [] b Seq.nil), atR_ref (ser_in x [])]
      exact c ρ
theorem ERes.zero {H0 H : AHeap} {bad : Int} {g : (Nat → Bool) → Bool} {ns : AC} {root err : Int} (h : ERes H0 H bad g ns root err) (he : err = 0) : bad = 0 := (h.diag he).1

end Go.Proofs.Ytanaaabejeeakaa
end
section
/- The table of a diagram. -/
namespace Go.Proofs.Ytanaaabejeeakaa
open Go.AI Go.AI.DT

/-- A loop's turns, of which the inner ones also come to the next turn of the outer one. -/
theorem DiagramTable_c {s : AC} {x : DT} {H : AHeap} (hx : x.RO) (hs : SlR H s 3 (nodeRows (rowsOf x))) :
    Fn.fetterlockref6_DiagramTable s (ref (ser x []) x) H fun H' r => (∃ tb cap, r = .sl (some (tb, 0)) 1 65536 cap ∧ Own H' tb ((tabOf x.eval).map AC.bool) ∧ H.size ≤ tb) ∧ Kp H H' := by
  obtain ⟨st, hst⟩ : ∃ st, st = ser x [] := ⟨_, rfl⟩
  have hseq : Seq st := by rw [hst]; exact ser_seq x [] hx Seq.nil
  have hinx : In st x := by rw [hst]; exact ser_in x []
  have hs' : SlR H s 3 (nodeRows (st.map (row st))) := by rw [hst]; exact hs
  rw [← hst]
  refine fetterlockref6_DiagramTable.run ?_
  unfold fetterlockref6_DiagramTable.W
  obtain ⟨N, hN⟩ : ∃ N : Nat, N = 65536 := ⟨_, rfl⟩
  rw [show (65536 : Int) = (N : Int) from by omega, ← hN]
  refine New.own fun b H1 hb hs1 ho hkp => ?_
  refine MkS.own (n := N) (by omega) (by omega) fun tb H2 htb hs2 hot hkp2 => ?_
  unfold fetterlockref6_DiagramTable.l8
  refine LoopT.rule (fun m s0 H3 => ∃ (i : Nat) (cs : List AC), i ≤ N ∧ m = N - i ∧ s0 = (.ptr (some (b, 0)), .sl (some (tb, 0)) 1 N (some N), (i : Int), ()) ∧ Kp H H3 ∧ Own H3 b [s, .int .i64 (ref st x)] ∧ Own H3 tb cs ∧ cs.length = N ∧
    ∀ j, j < i → cs[j]? = some (.bool (x.eval (rho j)))) N ⟨0, _, by omega, by omega, rfl, hkp.trans hkp2, ho.kp hkp2, hot, by rw [List.length_replicate], fun j h => by omega⟩ ?_
  rintro m s0 H3 back ⟨i, cs, hi, rfl, rfl, hkp3, ho3, hot3, hcl, hall⟩ hback
  simp only [fetterlockref6_DiagramTable.b8]
  refine LenS.mk (CondB.dec (fun hlt => ?_) fun hge => ?_)
  · have hi' : i < 65536 := by omega
    refine FA.mk (Ld.oi ho3 rfl ?_)
    unfold fetterlockref6_DiagramTable.l21
    refine LoopT.rule (fun m s0 H4 => ∃ t : DT, m = t.sz ∧ s0 = (.ptr (some (b, 0)), .sl (some (tb, 0)) 1 N (some N), (i : Int), ref st t, ()) ∧ H4 = H3 ∧ In st t ∧ t.eval (rho i) = x.eval (rho i)) x.sz ⟨x, rfl, rfl, rfl, hinx, rfl⟩ ?_
    rintro m s0 H4 back2 ⟨t, rfl, rfl, rfl, hin, hev⟩ hback2
    simp only [fetterlockref6_DiagramTable.b21]
    refine CondB.dec (fun h0 => ?_) fun h0 => ?_
    · have h0' : 0 ≤ ref st t := h0
      cases t with
      | leaf c => exfalso; cases c <;> simp [ref] at h0'
      | nd v l h =>
        have hg := ref_get hin h0'
        obtain ⟨_, _, _, e0, inl, inh, hro⟩ := hseq.1.parts _ (List.mem_of_getElem? hg)
        cases e0
        have hv16 := hro.1
        have hrow : (nodeRows (st.map (row st)))[(ref st (nd v l h)).toNat]? = some (nodeCells ((v : Int), ref st l, ref st h)) := nodeRow_at (by rw [List.getElem?_map, hg]; rfl)
        refine FA.mk (Ld.oc ho3 rfl (IA.of (hs'.kp hkp3) h0' hrow fun b1 o1 hld => FA.mk (Ld.ei hld rfl ?_)))
        have e : IntKind.wrap .i64 (15 - (v : Int)) = ((15 - v : Nat) : Int) := (wrap64 (by omega) (by omega)).trans (by omega)
        refine GE0.mk ?_ ?_
        · rw [e]; omega
        rw [e, bit_nat (by omega) (by omega)]
        have hrho : rho i v = i.testBit (15 - v) := rfl
        have hsz : (nd v l h).sz = l.sz + h.sz + 1 := rfl
        refine CondB.mk (fun hc => ?_) fun hc => ?_
        · have hbit : i.testBit (15 - v) = true := by
            cases hh : i.testBit (15 - v) with
            | true => rfl
            | false => rw [hh] at hc; simp at hc
          refine FA.mk (Ld.oc ho3 rfl (IA.of (hs'.kp hkp3) h0' hrow fun b1 o1 hld => FA.mk (Ld.ei hld rfl ?_)))
          refine hback2 h.sz _ _ (by omega) ⟨h, rfl, rfl, rfl, inh, ?_⟩
          rw [← hev]
          simp only [eval]
          rw [hrho, hbit, if_pos rfl]
        · have hbit : i.testBit (15 - v) = false := by
            cases hh : i.testBit (15 - v) with
            | false => rfl
            | true => rw [hh] at hc; simp at hc
          refine FA.mk (Ld.oc ho3 rfl (IA.of (hs'.kp hkp3) h0' hrow fun b1 o1 hld => FA.mk (Ld.ei hld rfl ?_)))
          refine hback2 l.sz _ _ (by omega) ⟨l, rfl, rfl, rfl, inl, ?_⟩
          rw [← hev]
          simp only [eval]
          rw [hrho, hbit]
          simp
    · have h0' : ref st t < 0 := by have : ¬ ref st t ≥ 0 := h0; omega
      obtain ⟨c, rfl⟩ := ref_leaf.1 h0'
      refine IA.mk (by omega) (by omega) ?_
      have hb2 : b < tb := by omega
      refine Sto.cell hot3 (by rw [hcl]; omega) fun H6 hot6 hk6 hs6 => ?_
      have hbl := ho3.lt
      refine hback (N - (i + 1)) _ _ (by omega) ⟨i + 1, _, by omega, rfl, ?_, ?_, ho3.keep hk6 (by omega), hot6, by rw [List.length_set, hcl], fun j hj => ?_⟩
      · exact tc rfl (tc rfl (tc ((wrap64 (by omega) (by omega)).trans (by omega)) rfl))
      · exact hkp3.fresh hk6 fun y e => by have e' : y = tb := e; have := hkp.size; omega
      · simp only [Int.toNat_natCast, Nat.mul_one, Nat.zero_add]
        by_cases hji : j = i
        · subst hji
          rw [List.getElem?_set_self (by omega)]
          congr 2
          rw [← hev]
          cases c <;> rfl
        · rw [List.getElem?_set_ne (by omega)]
          exact hall j (by omega)
  · have : i = N := by omega
    subst this
    refine ⟨⟨tb, some i, ?_, ?_, ?_⟩, hkp3⟩
    · rfl
    · have e : cs = (tabOf x.eval).map AC.bool := by
        unfold tabOf
        rw [← hN]
        apply List.ext_getElem?
        intro j
        by_cases hj : j < i
        · rw [hall j hj, List.getElem?_map, List.getElem?_map, List.getElem?_range hj]; rfl
        · rw [List.getElem?_eq_none (by omega), List.getElem?_eq_none (by rw [List.length_map, List.length_map, List.length_range]; omega)]
      rw [← e]; exact hot3
    · have := hkp.size; omega
end Go.Proofs.Ytanaaabejeeakaa
end
section
/- Printed by a program: functions and what must hold ahead of them. -/
namespace Go.Proofs.Ytanaaabejeeakaa
open Go.AI
set_option maxRecDepth 100000
set_option maxHeartbeats 2000000
set_option linter.unusedVariables false
attribute [local irreducible] Ld Sto New NewS NewM NN NZ GE0 FA IA IAP LenS Slc App Cpy Clr MkS Fnc NilQ IxS Look MSet Run CV RunT CVT LoopT Same1 Same2 wpC wpOs wpT wpO wpOp

def fetterlockref6_DiagramFault.c124 : RC := (.seq (.seq (.ops [.put 146 (.mov (.tm 9)),
    .put 147 (.mov (.tm 8)),
    .put 148 (.lens (.tm 147)),
    .put 149 (.cm .lt (.tm 146) (.tm 148))]) (.cond 149 .skip (.exit 6))) (.seq (.block 7 (.seq (.ops [.put 152 (.mov (.tm 8)),
    .put 153 (.mov (.tm 9)),
    .put 154 (.ia 1 (.tm 152) (.tm 153)),
    .put 155 (.ld false [.int .i64] (.tm 154)),
    .put 156 (.mov (.tm 9)),
    .put 157 (.cm .ne (.tm 155) (.tm 156))]) (.cond 157 (.seq (.ops [.put 2 (.mov (.ct (.one (.int .i64 2))))]) .ret) .skip))) (.ops [.put 150 (.mov (.tm 9)),
    .put 151 (.ar .add (.tm 150) (.ct (.one (.int .i64 1)))),
    .put 9 (.mov (.tm 151))])))
def fetterlockref6_DiagramFault.c92 : RC := (.cond 128 (.seq (.ops [.put 2 (.mov (.ct (.one (.int .i64 2))))]) .ret) .skip)
def fetterlockref6_DiagramFault.c68 : RC := (.seq (.seq (.ops [.put 105 (.mov (.tm 7)),
    .put 106 (.mov (.tm 5)),
    .put 107 (.cm .lt (.tm 105) (.tm 106))]) (.cond 107 .skip (.exit 4))) (.seq (.block 5 (.seq (.ops [.put 110 (.fa 0 (.tm 1)),
    .put 111 (.ld false [.ac] (.tm 110)),
    .put 112 (.mov (.tm 7)),
    .put 113 (.ia 3 (.tm 111) (.tm 112)),
    .put 114 (.ld true [.int .i64, .int .i64, .int .i64] (.tm 113)),
    .put 115 (.ld true [.int .i64, .int .i64, .int .i64] (.tm 6)),
    .put 116 (.eqa false 3 (.tm 114) (.tm 115))]) (.cond 116 (.seq (.ops [.put 2 (.mov (.ct (.one (.int .i64 2))))]) .ret) .skip))) (.ops [.put 108 (.mov (.tm 7)),
    .put 109 (.ar .add (.tm 108) (.ct (.one (.int .i64 1)))),
    .put 7 (.mov (.tm 109))])))
def fetterlockref6_DiagramFault.c59 : RC := (.cond 104 (.seq (.ops [.put 2 (.mov (.ct (.one (.int .i64 2))))]) .ret) .skip)
def fetterlockref6_DiagramFault.c46 : RC := (.seq (.seq (.ops [.put 54 (.mov (.tm 5)),
    .put 55 (.fa 0 (.tm 1)),
    .put 56 (.ld false [.ac] (.tm 55)),
    .put 57 (.lens (.tm 56)),
    .put 58 (.cm .lt (.tm 54) (.tm 57))]) (.cond 58 .skip (.exit 2))) (.seq (.block 3 (.seq (.ops [.put 61 (.fa 0 (.tm 1)),
    .put 62 (.ld false [.ac] (.tm 61)),
    .put 63 (.mov (.tm 5)),
    .put 64 (.ia 3 (.tm 62) (.tm 63)),
    .put 65 (.ld true [.int .i64, .int .i64, .int .i64] (.tm 64)),
    .put 6 (.new 77 [(.int .i64 0), (.int .i64 0), (.int .i64 0)]),
    .run (.st 3 (.tm 6) (.tm 65))]) (.seq (.seq (.ops [.put 66 (.fa 1 (.tm 6)),
    .put 67 (.ld false [.int .i64] (.tm 66)),
    .put 68 (.fa 2 (.tm 6)),
    .put 69 (.ld false [.int .i64] (.tm 68)),
    .put 70 (.cm .eq (.tm 67) (.tm 69)),
    .put 71 (.mov (.tm 70)),
    .gput 72 71 false (.fa 1 (.tm 6)),
    .gput 73 71 false (.ld false [.int .i64] (.tm 72)),
    .gput 74 71 false (.cm .ge (.tm 73) (.ct (.one (.int .i64 0)))),
    .gput 75 71 false (.mov (.tm 74)),
    .gput 76 75 true (.fa 0 (.tm 1)),
    .gput 77 75 true (.ld false [.ac] (.tm 76)),
    .gput 78 75 true (.fa 1 (.tm 6)),
    .gput 79 75 true (.ld false [.int .i64] (.tm 78)),
    .gput 80 75 true (.ia 3 (.tm 77) (.tm 79)),
    .gput 81 75 true (.fa 0 (.tm 80)),
    .gput 82 75 true (.ld false [.int .i64] (.tm 81)),
    .gput 83 75 true (.fa 0 (.tm 6)),
    .gput 84 75 true (.ld false [.int .i64] (.tm 83)),
    .gput 85 75 true (.cm .le (.tm 82) (.tm 84)),
    .gput 86 71 false (.pick (.tm 75) (.tm 85) (.ct (.one (.bool false)))),
    .put 87 (.pick (.tm 71) (.ct (.one (.bool true))) (.tm 86)),
    .put 88 (.mov (.tm 87)),
    .gput 89 88 false (.fa 2 (.tm 6)),
    .gput 90 88 false (.ld false [.int .i64] (.tm 89)),
    .gput 91 88 false (.cm .ge (.tm 90) (.ct (.one (.int .i64 0)))),
    .gput 92 88 false (.mov (.tm 91)),
    .gput 93 92 true (.fa 0 (.tm 1)),
    .gput 94 92 true (.ld false [.ac] (.tm 93)),
    .gput 95 92 true (.fa 2 (.tm 6)),
    .gput 96 92 true (.ld false [.int .i64] (.tm 95)),
    .gput 97 92 true (.ia 3 (.tm 94) (.tm 96)),
    .gput 98 92 true (.fa 0 (.tm 97)),
    .gput 99 92 true (.ld false [.int .i64] (.tm 98)),
    .gput 100 92 true (.fa 0 (.tm 6)),
    .gput 101 92 true (.ld false [.int .i64] (.tm 100)),
    .gput 102 92 true (.cm .le (.tm 99) (.tm 101)),
    .gput 103 88 false (.pick (.tm 92) (.tm 102) (.ct (.one (.bool false)))),
    .put 104 (.pick (.tm 88) (.ct (.one (.bool true))) (.tm 103))]) fetterlockref6_DiagramFault.c59) (.seq (.ops [.put 7 (.mov (.ct (.one (.int .i64 0))))]) (.block 4 (.loop fetterlockref6_DiagramFault.c68)))))) (.ops [.put 59 (.mov (.tm 5)),
    .put 60 (.ar .add (.tm 59) (.ct (.one (.int .i64 1)))),
    .put 5 (.mov (.tm 60))])))
def fetterlockref6_DiagramFault.c35 : RC := (.cond 53 (.seq (.ops [.put 2 (.mov (.ct (.one (.int .i64 2))))]) .ret) .skip)
def fetterlockref6_DiagramFault.c28 : RC := (.cond 33 (.seq (.ops [.put 2 (.mov (.ct (.one (.int .i64 1))))]) .ret) .skip)
def fetterlockref6_DiagramFault.c15 : RC := (.seq (.seq (.ops [.put 14 (.mov (.tm 3)),
    .put 15 (.fa 0 (.tm 1)),
    .put 16 (.ld false [.ac] (.tm 15)),
    .put 17 (.lens (.tm 16)),
    .put 18 (.cm .lt (.tm 14) (.tm 17))]) (.cond 18 .skip (.exit 0))) (.seq (.block 1 (.seq (.ops [.put 21 (.fa 0 (.tm 1)),
    .put 22 (.ld false [.ac] (.tm 21)),
    .put 23 (.mov (.tm 3)),
    .put 24 (.ia 3 (.tm 22) (.tm 23)),
    .put 25 (.ld true [.int .i64, .int .i64, .int .i64] (.tm 24)),
    .put 4 (.new 77 [(.int .i64 0), (.int .i64 0), (.int .i64 0)]),
    .run (.st 3 (.tm 4) (.tm 25))]) (.seq (.seq (.ops [.put 26 (.fa 0 (.tm 4)),
    .put 27 (.ld false [.int .i64] (.tm 26)),
    .put 28 (.cm .lt (.tm 27) (.ct (.one (.int .i64 0)))),
    .put 29 (.mov (.tm 28)),
    .gput 30 29 false (.fa 0 (.tm 4)),
    .gput 31 29 false (.ld false [.int .i64] (.tm 30)),
    .gput 32 29 false (.cm .ge (.tm 31) (.ct (.one (.int .i64 16)))),
    .put 33 (.pick (.tm 29) (.ct (.one (.bool true))) (.tm 32))]) fetterlockref6_DiagramFault.c28) (.seq (.ops [.put 34 (.fa 1 (.tm 4)),
    .put 35 (.ld false [.int .i64] (.tm 34)),
    .put 36 (.cm .lt (.tm 35) (.ct (.one (.int .i64 (-2))))),
    .put 37 (.mov (.tm 36)),
    .gput 38 37 false (.fa 1 (.tm 4)),
    .gput 39 37 false (.ld false [.int .i64] (.tm 38)),
    .gput 40 37 false (.mov (.tm 3)),
    .gput 41 37 false (.cm .ge (.tm 39) (.tm 40)),
    .put 42 (.pick (.tm 37) (.ct (.one (.bool true))) (.tm 41)),
    .put 43 (.mov (.tm 42)),
    .gput 44 43 false (.fa 2 (.tm 4)),
    .gput 45 43 false (.ld false [.int .i64] (.tm 44)),
    .gput 46 43 false (.cm .lt (.tm 45) (.ct (.one (.int .i64 (-2))))),
    .put 47 (.pick (.tm 43) (.ct (.one (.bool true))) (.tm 46)),
    .put 48 (.mov (.tm 47)),
    .gput 49 48 false (.fa 2 (.tm 4)),
    .gput 50 48 false (.ld false [.int .i64] (.tm 49)),
    .gput 51 48 false (.mov (.tm 3)),
    .gput 52 48 false (.cm .ge (.tm 50) (.tm 51)),
    .put 53 (.pick (.tm 48) (.ct (.one (.bool true))) (.tm 52))]) fetterlockref6_DiagramFault.c35)))) (.ops [.put 19 (.mov (.tm 3)),
    .put 20 (.ar .add (.tm 19) (.ct (.one (.int .i64 1)))),
    .put 3 (.mov (.tm 20))])))
def fetterlockref6_DiagramFault.c : RC := (.seq (.ops [.put 1 (.box 27 (.tm 0)),
    .put 2 (.mov (.ct (.one (.int .i64 0))))]) (.seq (.seq (.ops [.put 10 (.fa 0 (.tm 1)),
    .put 11 (.ld false [.ac] (.tm 10)),
    .put 12 (.lens (.tm 11)),
    .put 13 (.cm .gt (.tm 12) (.ct (.one (.int .i64 2000))))]) (.cond 13 (.seq (.ops [.put 2 (.mov (.ct (.one (.int .i64 3))))]) .ret) .skip)) (.seq (.seq (.ops [.put 3 (.mov (.ct (.one (.int .i64 0))))]) (.block 0 (.loop fetterlockref6_DiagramFault.c15))) (.seq (.seq (.ops [.put 5 (.mov (.ct (.one (.int .i64 0))))]) (.block 2 (.loop fetterlockref6_DiagramFault.c46))) (.seq (.seq (.ops [.put 117 (.fa 0 (.tm 1)),
    .put 118 (.ld false [.ac] (.tm 117)),
    .put 119 (.lens (.tm 118)),
    .put 120 (.cm .eq (.tm 119) (.ct (.one (.int .i64 0))))]) (.cond 120 (.seq (.seq (.ops [.put 121 (.fa 1 (.tm 1)),
    .put 122 (.ld false [.int .i64] (.tm 121)),
    .put 123 (.cm .ne (.tm 122) (.ct (.one (.int .i64 (-1))))),
    .put 124 (.mov (.tm 123)),
    .gput 125 124 true (.fa 1 (.tm 1)),
    .gput 126 124 true (.ld false [.int .i64] (.tm 125)),
    .gput 127 124 true (.cm .ne (.tm 126) (.ct (.one (.int .i64 (-2))))),
    .put 128 (.pick (.tm 124) (.tm 127) (.ct (.one (.bool false))))]) fetterlockref6_DiagramFault.c92) (.seq (.ops [.put 2 (.mov (.ct (.one (.int .i64 0))))]) .ret)) .skip)) (.seq (.seq (.ops [.put 129 (.fa 1 (.tm 1)),
    .put 130 (.ld false [.int .i64] (.tm 129)),
    .put 131 (.fa 0 (.tm 1)),
    .put 132 (.ld false [.ac] (.tm 131)),
    .put 133 (.lens (.tm 132)),
    .put 134 (.ar .sub (.tm 133) (.ct (.one (.int .i64 1)))),
    .put 135 (.cm .ne (.tm 130) (.tm 134))]) (.cond 135 (.seq (.ops [.put 2 (.mov (.ct (.one (.int .i64 2))))]) .ret) .skip)) (.seq (.ops [.put 136 (.ld true [.ac, .int .i64] (.tm 1)),
    .put 137 (.fa 1 (.tm 1)),
    .put 138 (.ld false [.int .i64] (.tm 137)),
    .put 139 (.call 61 [(.tm 136), (.tm 138), (.ct (.one (.sl none 0 0 (some 0))))]),
    .put 8 (.mov (.tm 139))]) (.seq (.seq (.ops [.put 140 (.mov (.tm 8)),
    .put 141 (.lens (.tm 140)),
    .put 142 (.fa 0 (.tm 1)),
    .put 143 (.ld false [.ac] (.tm 142)),
    .put 144 (.lens (.tm 143)),
    .put 145 (.cm .ne (.tm 141) (.tm 144))]) (.cond 145 (.seq (.ops [.put 2 (.mov (.ct (.one (.int .i64 2))))]) .ret) .skip)) (.seq (.seq (.ops [.put 9 (.mov (.ct (.one (.int .i64 0))))]) (.block 6 (.loop fetterlockref6_DiagramFault.c124))) (.seq (.ops [.put 2 (.mov (.ct (.one (.int .i64 0))))]) .ret))))))))))
abbrev fetterlockref6_DiagramFault.KQ (Q : AHeap → Int → Prop) : AV → AHeap → Prop := fun v H => ∃ xs : Tup (flat [(false, [.int .i64])]), v = joinR (splitP [(false, [.int .i64])] (cellsOf (flat [(false, [.int .i64])]) xs)) ∧ app (flat [(false, [.int .i64])]) (Q H) xs
abbrev fetterlockref6_DiagramFault.K (Q : AHeap → Int → Prop) : Ex → Env → AHeap → Prop := kTop [.tm 2] (fetterlockref6_DiagramFault.KQ Q)
abbrev fetterlockref6_DiagramFault.k11 (Q : AHeap → Int → Prop) : Ex → Env → AHeap → Prop := kSeq (fun t H => wpC Try.prog (.seq (.seq (.ops [.put 5 (.mov (.ct (.one (.int .i64 0))))]) (.block 2 (.loop fetterlockref6_DiagramFault.c46))) (.seq (.seq (.ops [.put 117 (.fa 0 (.tm 1)),
    .put 118 (.ld false [.ac] (.tm 117)),
    .put 119 (.lens (.tm 118)),
    .put 120 (.cm .eq (.tm 119) (.ct (.one (.int .i64 0))))]) (.cond 120 (.seq (.seq (.ops [.put 121 (.fa 1 (.tm 1)),
    .put 122 (.ld false [.int .i64] (.tm 121)),
    .put 123 (.cm .ne (.tm 122) (.ct (.one (.int .i64 (-1))))),
    .put 124 (.mov (.tm 123)),
    .gput 125 124 true (.fa 1 (.tm 1)),
    .gput 126 124 true (.ld false [.int .i64] (.tm 125)),
    .gput 127 124 true (.cm .ne (.tm 126) (.ct (.one (.int .i64 (-2))))),
    .put 128 (.pick (.tm 124) (.tm 127) (.ct (.one (.bool false))))]) fetterlockref6_DiagramFault.c92) (.seq (.ops [.put 2 (.mov (.ct (.one (.int .i64 0))))]) .ret)) .skip)) (.seq (.seq (.ops [.put 129 (.fa 1 (.tm 1)),
    .put 130 (.ld false [.int .i64] (.tm 129)),
    .put 131 (.fa 0 (.tm 1)),
    .put 132 (.ld false [.ac] (.tm 131)),
    .put 133 (.lens (.tm 132)),
    .put 134 (.ar .sub (.tm 133) (.ct (.one (.int .i64 1)))),
    .put 135 (.cm .ne (.tm 130) (.tm 134))]) (.cond 135 (.seq (.ops [.put 2 (.mov (.ct (.one (.int .i64 2))))]) .ret) .skip)) (.seq (.ops [.put 136 (.ld true [.ac, .int .i64] (.tm 1)),
    .put 137 (.fa 1 (.tm 1)),
    .put 138 (.ld false [.int .i64] (.tm 137)),
    .put 139 (.call 61 [(.tm 136), (.tm 138), (.ct (.one (.sl none 0 0 (some 0))))]),
    .put 8 (.mov (.tm 139))]) (.seq (.seq (.ops [.put 140 (.mov (.tm 8)),
    .put 141 (.lens (.tm 140)),
    .put 142 (.fa 0 (.tm 1)),
    .put 143 (.ld false [.ac] (.tm 142)),
    .put 144 (.lens (.tm 143)),
    .put 145 (.cm .ne (.tm 141) (.tm 144))]) (.cond 145 (.seq (.ops [.put 2 (.mov (.ct (.one (.int .i64 2))))]) .ret) .skip)) (.seq (.seq (.ops [.put 9 (.mov (.ct (.one (.int .i64 0))))]) (.block 6 (.loop fetterlockref6_DiagramFault.c124))) (.seq (.ops [.put 2 (.mov (.ct (.one (.int .i64 0))))]) .ret))))))) t H (fetterlockref6_DiagramFault.K Q)) (fetterlockref6_DiagramFault.K Q)
abbrev fetterlockref6_DiagramFault.k22 (Q : AHeap → Int → Prop) (X14 : Env → AHeap → Prop) : Ex → Env → AHeap → Prop := kSeq (fun t H => wpC Try.prog (.ops [.put 19 (.mov (.tm 3)),
    .put 20 (.ar .add (.tm 19) (.ct (.one (.int .i64 1)))),
    .put 3 (.mov (.tm 20))]) t H (kSeq X14 (kBlk 0 (fetterlockref6_DiagramFault.k11 Q)))) (kSeq X14 (kBlk 0 (fetterlockref6_DiagramFault.k11 Q)))
abbrev fetterlockref6_DiagramFault.k26 (Q : AHeap → Int → Prop) (X14 : Env → AHeap → Prop) : Ex → Env → AHeap → Prop := kSeq (fun t H => wpC Try.prog (.seq (.ops [.put 34 (.fa 1 (.tm 4)),
    .put 35 (.ld false [.int .i64] (.tm 34)),
    .put 36 (.cm .lt (.tm 35) (.ct (.one (.int .i64 (-2))))),
    .put 37 (.mov (.tm 36)),
    .gput 38 37 false (.fa 1 (.tm 4)),
    .gput 39 37 false (.ld false [.int .i64] (.tm 38)),
    .gput 40 37 false (.mov (.tm 3)),
    .gput 41 37 false (.cm .ge (.tm 39) (.tm 40)),
    .put 42 (.pick (.tm 37) (.ct (.one (.bool true))) (.tm 41)),
    .put 43 (.mov (.tm 42)),
    .gput 44 43 false (.fa 2 (.tm 4)),
    .gput 45 43 false (.ld false [.int .i64] (.tm 44)),
    .gput 46 43 false (.cm .lt (.tm 45) (.ct (.one (.int .i64 (-2))))),
    .put 47 (.pick (.tm 43) (.ct (.one (.bool true))) (.tm 46)),
    .put 48 (.mov (.tm 47)),
    .gput 49 48 false (.fa 2 (.tm 4)),
    .gput 50 48 false (.ld false [.int .i64] (.tm 49)),
    .gput 51 48 false (.mov (.tm 3)),
    .gput 52 48 false (.cm .ge (.tm 50) (.tm 51)),
    .put 53 (.pick (.tm 48) (.ct (.one (.bool true))) (.tm 52))]) fetterlockref6_DiagramFault.c35) t H (kBlk 1 (fetterlockref6_DiagramFault.k22 Q X14))) (kBlk 1 (fetterlockref6_DiagramFault.k22 Q X14))
abbrev fetterlockref6_DiagramFault.k42 (Q : AHeap → Int → Prop) : Ex → Env → AHeap → Prop := kSeq (fun t H => wpC Try.prog (.seq (.seq (.ops [.put 117 (.fa 0 (.tm 1)),
    .put 118 (.ld false [.ac] (.tm 117)),
    .put 119 (.lens (.tm 118)),
    .put 120 (.cm .eq (.tm 119) (.ct (.one (.int .i64 0))))]) (.cond 120 (.seq (.seq (.ops [.put 121 (.fa 1 (.tm 1)),
    .put 122 (.ld false [.int .i64] (.tm 121)),
    .put 123 (.cm .ne (.tm 122) (.ct (.one (.int .i64 (-1))))),
    .put 124 (.mov (.tm 123)),
    .gput 125 124 true (.fa 1 (.tm 1)),
    .gput 126 124 true (.ld false [.int .i64] (.tm 125)),
    .gput 127 124 true (.cm .ne (.tm 126) (.ct (.one (.int .i64 (-2))))),
    .put 128 (.pick (.tm 124) (.tm 127) (.ct (.one (.bool false))))]) fetterlockref6_DiagramFault.c92) (.seq (.ops [.put 2 (.mov (.ct (.one (.int .i64 0))))]) .ret)) .skip)) (.seq (.seq (.ops [.put 129 (.fa 1 (.tm 1)),
    .put 130 (.ld false [.int .i64] (.tm 129)),
    .put 131 (.fa 0 (.tm 1)),
    .put 132 (.ld false [.ac] (.tm 131)),
    .put 133 (.lens (.tm 132)),
    .put 134 (.ar .sub (.tm 133) (.ct (.one (.int .i64 1)))),
    .put 135 (.cm .ne (.tm 130) (.tm 134))]) (.cond 135 (.seq (.ops [.put 2 (.mov (.ct (.one (.int .i64 2))))]) .ret) .skip)) (.seq (.ops [.put 136 (.ld true [.ac, .int .i64] (.tm 1)),
    .put 137 (.fa 1 (.tm 1)),
    .put 138 (.ld false [.int .i64] (.tm 137)),
    .put 139 (.call 61 [(.tm 136), (.tm 138), (.ct (.one (.sl none 0 0 (some 0))))]),
    .put 8 (.mov (.tm 139))]) (.seq (.seq (.ops [.put 140 (.mov (.tm 8)),
    .put 141 (.lens (.tm 140)),
    .put 142 (.fa 0 (.tm 1)),
    .put 143 (.ld false [.ac] (.tm 142)),
    .put 144 (.lens (.tm 143)),
    .put 145 (.cm .ne (.tm 141) (.tm 144))]) (.cond 145 (.seq (.ops [.put 2 (.mov (.ct (.one (.int .i64 2))))]) .ret) .skip)) (.seq (.seq (.ops [.put 9 (.mov (.ct (.one (.int .i64 0))))]) (.block 6 (.loop fetterlockref6_DiagramFault.c124))) (.seq (.ops [.put 2 (.mov (.ct (.one (.int .i64 0))))]) .ret)))))) t H (fetterlockref6_DiagramFault.K Q)) (fetterlockref6_DiagramFault.K Q)
abbrev fetterlockref6_DiagramFault.k53 (Q : AHeap → Int → Prop) (X45 : Env → AHeap → Prop) : Ex → Env → AHeap → Prop := kSeq (fun t H => wpC Try.prog (.ops [.put 59 (.mov (.tm 5)),
    .put 60 (.ar .add (.tm 59) (.ct (.one (.int .i64 1)))),
    .put 5 (.mov (.tm 60))]) t H (kSeq X45 (kBlk 2 (fetterlockref6_DiagramFault.k42 Q)))) (kSeq X45 (kBlk 2 (fetterlockref6_DiagramFault.k42 Q)))
abbrev fetterlockref6_DiagramFault.k57 (Q : AHeap → Int → Prop) (X45 : Env → AHeap → Prop) : Ex → Env → AHeap → Prop := kSeq (fun t H => wpC Try.prog (.seq (.ops [.put 7 (.mov (.ct (.one (.int .i64 0))))]) (.block 4 (.loop fetterlockref6_DiagramFault.c68))) t H (kBlk 3 (fetterlockref6_DiagramFault.k53 Q X45))) (kBlk 3 (fetterlockref6_DiagramFault.k53 Q X45))
abbrev fetterlockref6_DiagramFault.k86 (Q : AHeap → Int → Prop) : Ex → Env → AHeap → Prop := kSeq (fun t H => wpC Try.prog (.seq (.seq (.ops [.put 129 (.fa 1 (.tm 1)),
    .put 130 (.ld false [.int .i64] (.tm 129)),
    .put 131 (.fa 0 (.tm 1)),
    .put 132 (.ld false [.ac] (.tm 131)),
    .put 133 (.lens (.tm 132)),
    .put 134 (.ar .sub (.tm 133) (.ct (.one (.int .i64 1)))),
    .put 135 (.cm .ne (.tm 130) (.tm 134))]) (.cond 135 (.seq (.ops [.put 2 (.mov (.ct (.one (.int .i64 2))))]) .ret) .skip)) (.seq (.ops [.put 136 (.ld true [.ac, .int .i64] (.tm 1)),
    .put 137 (.fa 1 (.tm 1)),
    .put 138 (.ld false [.int .i64] (.tm 137)),
    .put 139 (.call 61 [(.tm 136), (.tm 138), (.ct (.one (.sl none 0 0 (some 0))))]),
    .put 8 (.mov (.tm 139))]) (.seq (.seq (.ops [.put 140 (.mov (.tm 8)),
    .put 141 (.lens (.tm 140)),
    .put 142 (.fa 0 (.tm 1)),
    .put 143 (.ld false [.ac] (.tm 142)),
    .put 144 (.lens (.tm 143)),
    .put 145 (.cm .ne (.tm 141) (.tm 144))]) (.cond 145 (.seq (.ops [.put 2 (.mov (.ct (.one (.int .i64 2))))]) .ret) .skip)) (.seq (.seq (.ops [.put 9 (.mov (.ct (.one (.int .i64 0))))]) (.block 6 (.loop fetterlockref6_DiagramFault.c124))) (.seq (.ops [.put 2 (.mov (.ct (.one (.int .i64 0))))]) .ret))))) t H (fetterlockref6_DiagramFault.K Q)) (fetterlockref6_DiagramFault.K Q)
abbrev fetterlockref6_DiagramFault.k90 (Q : AHeap → Int → Prop) : Ex → Env → AHeap → Prop := kSeq (fun t H => wpC Try.prog (.seq (.ops [.put 2 (.mov (.ct (.one (.int .i64 0))))]) .ret) t H (fetterlockref6_DiagramFault.k86 Q)) (fetterlockref6_DiagramFault.k86 Q)
abbrev fetterlockref6_DiagramFault.k120 (Q : AHeap → Int → Prop) : Ex → Env → AHeap → Prop := kSeq (fun t H => wpC Try.prog (.seq (.ops [.put 2 (.mov (.ct (.one (.int .i64 0))))]) .ret) t H (fetterlockref6_DiagramFault.K Q)) (fetterlockref6_DiagramFault.K Q)
def fetterlockref6_DiagramFault.R123 (s : Tup [.ac, .int .i64]) (t : Env) : Prop := t 8 = (.one (s.1)) ∧ t 9 = (.one (.int .i64 (s.2.1))) ∧ True
def fetterlockref6_DiagramFault.R67 (s : Tup [.ac, .int .i64, .ac, .int .i64]) (t : Env) : Prop := t 1 = (.one (s.1)) ∧ t 5 = (.one (.int .i64 (s.2.1))) ∧ t 6 = (.one (s.2.2.1)) ∧ t 7 = (.one (.int .i64 (s.2.2.2.1))) ∧ True
def fetterlockref6_DiagramFault.R45 (s : Tup [.ac, .int .i64]) (t : Env) : Prop := t 1 = (.one (s.1)) ∧ t 5 = (.one (.int .i64 (s.2.1))) ∧ True
def fetterlockref6_DiagramFault.R14 (s : Tup [.ac, .int .i64]) (t : Env) : Prop := t 1 = (.one (s.1)) ∧ t 3 = (.one (.int .i64 (s.2.1))) ∧ True
def fetterlockref6_DiagramFault.b123 (Q : AHeap → Int → Prop) (Y123 : Tup [.ac, .int .i64] → AHeap → Prop) (x8 : AC) (x9 : Int) (H : AHeap) : Prop :=
  LenS x8 fun n_1 =>
  CondB (decide (x9 < n_1))
    (IA 1 x8 x9 fun q_2 =>
    Ld [.int .i64] H q_2 fun (v_3 : Int) =>
    CondB (v_3 != x9)
      (Q H 2)
      (Y123 (x8, ((IntKind.wrap .i64 (x9 + 1)) : Int), ()) H))
    (Q H 0)
def fetterlockref6_DiagramFault.l123 (Q : AHeap → Int → Prop) (x8 : AC) (x9 : Int) (H : AHeap) : Prop := LoopT (Tup [.ac, .int .i64]) (fun Y s H => fetterlockref6_DiagramFault.b123 Q Y (s.1) (s.2.1) H) (x8, x9, ()) H
def fetterlockref6_DiagramFault.p92 (Q : AHeap → Int → Prop) (x128 : Bool) (H : AHeap) : Prop :=
  CondB x128
    (Q H 2)
    (Q H 0)
def fetterlockref6_DiagramFault.b67 (Q : AHeap → Int → Prop) (Y45 : Tup [.ac, .int .i64] → AHeap → Prop) (Y67 : Tup [.ac, .int .i64, .ac, .int .i64] → AHeap → Prop) (x1 : AC) (x5 : Int) (x6 : AC) (x7 : Int) (H : AHeap) : Prop :=
  CondB (decide (x7 < x5))
    (FA 0 x1 fun q_1 =>
    Ld [.ac] H q_1 fun (v_2 : AC) =>
    IA 3 v_2 x7 fun q_3 =>
    Ld [.int .i64, .int .i64, .int .i64] H q_3 fun (v_4 : Int) (v_5 : Int) (v_6 : Int) =>
    Ld [.int .i64, .int .i64, .int .i64] H x6 fun (v_7 : Int) (v_8 : Int) (v_9 : Int) =>
    CondB (decide (([v_4, v_5, v_6] : List Int) = ([v_7, v_8, v_9] : List Int)))
      (Q H 2)
      (Y67 (x1, (x5 : Int), x6, ((IntKind.wrap .i64 (x7 + 1)) : Int), ()) H))
    (Y45 (x1, ((IntKind.wrap .i64 (x5 + 1)) : Int), ()) H)
def fetterlockref6_DiagramFault.l67 (Q : AHeap → Int → Prop) (Y45 : Tup [.ac, .int .i64] → AHeap → Prop) (x1 : AC) (x5 : Int) (x6 : AC) (x7 : Int) (H : AHeap) : Prop := LoopT (Tup [.ac, .int .i64, .ac, .int .i64]) (fun Y s H => fetterlockref6_DiagramFault.b67 Q Y45 Y (s.1) (s.2.1) (s.2.2.1) (s.2.2.2.1) H) (x1, x5, x6, x7, ()) H
def fetterlockref6_DiagramFault.p59 (Q : AHeap → Int → Prop) (Y45 : Tup [.ac, .int .i64] → AHeap → Prop) (x1 : AC) (x5 : Int) (x6 : AC) (x104 : Bool) (H : AHeap) : Prop :=
  CondB x104
    (Q H 2)
    (fetterlockref6_DiagramFault.l67 Q Y45 x1 x5 x6 0 H)
def fetterlockref6_DiagramFault.b45 (Q : AHeap → Int → Prop) (Y45 : Tup [.ac, .int .i64] → AHeap → Prop) (x1 : AC) (x5 : Int) (H : AHeap) : Prop :=
  FA 0 x1 fun q_1 =>
  Ld [.ac] H q_1 fun (v_2 : AC) =>
  LenS v_2 fun n_3 =>
  CondB (decide (x5 < n_3))
    (FA 0 x1 fun q_4 =>
    Ld [.ac] H q_4 fun (v_5 : AC) =>
    IA 3 v_5 x5 fun q_6 =>
    Ld [.int .i64, .int .i64, .int .i64] H q_6 fun (v_7 : Int) (v_8 : Int) (v_9 : Int) =>
    New 77 [(.int .i64 0), (.int .i64 0), (.int .i64 0)] H fun p_10 H_11 =>
    Sto H_11 p_10 [(.int .i64 v_7), (.int .i64 v_8), (.int .i64 v_9)] fun H_12 =>
    FA 1 p_10 fun q_13 =>
    Ld [.int .i64] H_12 q_13 fun (v_14 : Int) =>
    FA 2 p_10 fun q_15 =>
    Ld [.int .i64] H_12 q_15 fun (v_16 : Int) =>
    CondB (v_14 == v_16)
      (fetterlockref6_DiagramFault.p59 Q Y45 x1 x5 p_10 true H_12)
      (FA 1 p_10 fun q_17 =>
      Ld [.int .i64] H_12 q_17 fun (v_18 : Int) =>
      CondB (decide (v_18 ≥ 0))
        (FA 0 x1 fun q_19 =>
        Ld [.ac] H_12 q_19 fun (v_20 : AC) =>
        FA 1 p_10 fun q_21 =>
        Ld [.int .i64] H_12 q_21 fun (v_22 : Int) =>
        IA 3 v_20 v_22 fun q_23 =>
        FA 0 q_23 fun q_24 =>
        Ld [.int .i64] H_12 q_24 fun (v_25 : Int) =>
        FA 0 p_10 fun q_26 =>
        Ld [.int .i64] H_12 q_26 fun (v_27 : Int) =>
        CondB (decide (v_25 ≤ v_27))
          (fetterlockref6_DiagramFault.p59 Q Y45 x1 x5 p_10 true H_12)
          (FA 2 p_10 fun q_28 =>
          Ld [.int .i64] H_12 q_28 fun (v_29 : Int) =>
          CondB (decide (v_29 ≥ 0))
            (FA 0 x1 fun q_30 =>
            Ld [.ac] H_12 q_30 fun (v_31 : AC) =>
            FA 2 p_10 fun q_32 =>
            Ld [.int .i64] H_12 q_32 fun (v_33 : Int) =>
            IA 3 v_31 v_33 fun q_34 =>
            FA 0 q_34 fun q_35 =>
            Ld [.int .i64] H_12 q_35 fun (v_36 : Int) =>
            FA 0 p_10 fun q_37 =>
            Ld [.int .i64] H_12 q_37 fun (v_38 : Int) =>
            fetterlockref6_DiagramFault.p59 Q Y45 x1 x5 p_10 (decide (v_36 ≤ v_38)) H_12)
            (fetterlockref6_DiagramFault.p59 Q Y45 x1 x5 p_10 false H_12)))
        (FA 2 p_10 fun q_39 =>
        Ld [.int .i64] H_12 q_39 fun (v_40 : Int) =>
        CondB (decide (v_40 ≥ 0))
          (FA 0 x1 fun q_41 =>
          Ld [.ac] H_12 q_41 fun (v_42 : AC) =>
          FA 2 p_10 fun q_43 =>
          Ld [.int .i64] H_12 q_43 fun (v_44 : Int) =>
          IA 3 v_42 v_44 fun q_45 =>
          FA 0 q_45 fun q_46 =>
          Ld [.int .i64] H_12 q_46 fun (v_47 : Int) =>
          FA 0 p_10 fun q_48 =>
          Ld [.int .i64] H_12 q_48 fun (v_49 : Int) =>
          fetterlockref6_DiagramFault.p59 Q Y45 x1 x5 p_10 (decide (v_47 ≤ v_49)) H_12)
          (fetterlockref6_DiagramFault.p59 Q Y45 x1 x5 p_10 false H_12))))
    (FA 0 x1 fun q_50 =>
    Ld [.ac] H q_50 fun (v_51 : AC) =>
    LenS v_51 fun n_52 =>
    CondB (n_52 == 0)
      (FA 1 x1 fun q_53 =>
      Ld [.int .i64] H q_53 fun (v_54 : Int) =>
      CondB (v_54 != (-1))
        (FA 1 x1 fun q_55 =>
        Ld [.int .i64] H q_55 fun (v_56 : Int) =>
        fetterlockref6_DiagramFault.p92 Q (v_56 != (-2)) H)
        (fetterlockref6_DiagramFault.p92 Q false H))
      (FA 1 x1 fun q_57 =>
      Ld [.int .i64] H q_57 fun (v_58 : Int) =>
      FA 0 x1 fun q_59 =>
      Ld [.ac] H q_59 fun (v_60 : AC) =>
      LenS v_60 fun n_61 =>
      CondB (v_58 != (IntKind.wrap .i64 (n_61 - 1)))
        (Q H 2)
        (Ld [.ac, .int .i64] H x1 fun (v_62 : AC) (v_63 : Int) =>
        FA 1 x1 fun q_64 =>
        Ld [.int .i64] H q_64 fun (v_65 : Int) =>
        Fn.fetterlockref6_numbered v_62 v_63 v_65 (.sl none 0 0 (some 0)) H fun H_66 (v_67 : AC) =>
        LenS v_67 fun n_68 =>
        FA 0 x1 fun q_69 =>
        Ld [.ac] H_66 q_69 fun (v_70 : AC) =>
        LenS v_70 fun n_71 =>
        CondB (n_68 != n_71)
          (Q H_66 2)
          (fetterlockref6_DiagramFault.l123 Q v_67 0 H_66))))
def fetterlockref6_DiagramFault.l45 (Q : AHeap → Int → Prop) (x1 : AC) (x5 : Int) (H : AHeap) : Prop := LoopT (Tup [.ac, .int .i64]) (fun Y s H => fetterlockref6_DiagramFault.b45 Q Y (s.1) (s.2.1) H) (x1, x5, ()) H
def fetterlockref6_DiagramFault.p35 (Q : AHeap → Int → Prop) (Y14 : Tup [.ac, .int .i64] → AHeap → Prop) (x1 : AC) (x3 : Int) (x53 : Bool) (H : AHeap) : Prop :=
  CondB x53
    (Q H 2)
    (Y14 (x1, ((IntKind.wrap .i64 (x3 + 1)) : Int), ()) H)
def fetterlockref6_DiagramFault.p28 (Q : AHeap → Int → Prop) (Y14 : Tup [.ac, .int .i64] → AHeap → Prop) (x1 : AC) (x3 : Int) (x4 : AC) (x33 : Bool) (H : AHeap) : Prop :=
  CondB x33
    (Q H 1)
    (FA 1 x4 fun q_1 =>
    Ld [.int .i64] H q_1 fun (v_2 : Int) =>
    CondB (decide (v_2 < (-2)))
      (fetterlockref6_DiagramFault.p35 Q Y14 x1 x3 true H)
      (FA 1 x4 fun q_3 =>
      Ld [.int .i64] H q_3 fun (v_4 : Int) =>
      CondB (decide (v_4 ≥ x3))
        (fetterlockref6_DiagramFault.p35 Q Y14 x1 x3 true H)
        (FA 2 x4 fun q_5 =>
        Ld [.int .i64] H q_5 fun (v_6 : Int) =>
        CondB (decide (v_6 < (-2)))
          (fetterlockref6_DiagramFault.p35 Q Y14 x1 x3 true H)
          (FA 2 x4 fun q_7 =>
          Ld [.int .i64] H q_7 fun (v_8 : Int) =>
          fetterlockref6_DiagramFault.p35 Q Y14 x1 x3 (decide (v_8 ≥ x3)) H))))
def fetterlockref6_DiagramFault.b14 (Q : AHeap → Int → Prop) (Y14 : Tup [.ac, .int .i64] → AHeap → Prop) (x1 : AC) (x3 : Int) (H : AHeap) : Prop :=
  FA 0 x1 fun q_1 =>
  Ld [.ac] H q_1 fun (v_2 : AC) =>
  LenS v_2 fun n_3 =>
  CondB (decide (x3 < n_3))
    (FA 0 x1 fun q_4 =>
    Ld [.ac] H q_4 fun (v_5 : AC) =>
    IA 3 v_5 x3 fun q_6 =>
    Ld [.int .i64, .int .i64, .int .i64] H q_6 fun (v_7 : Int) (v_8 : Int) (v_9 : Int) =>
    New 77 [(.int .i64 0), (.int .i64 0), (.int .i64 0)] H fun p_10 H_11 =>
    Sto H_11 p_10 [(.int .i64 v_7), (.int .i64 v_8), (.int .i64 v_9)] fun H_12 =>
    FA 0 p_10 fun q_13 =>
    Ld [.int .i64] H_12 q_13 fun (v_14 : Int) =>
    CondB (decide (v_14 < 0))
      (fetterlockref6_DiagramFault.p28 Q Y14 x1 x3 p_10 true H_12)
      (FA 0 p_10 fun q_15 =>
      Ld [.int .i64] H_12 q_15 fun (v_16 : Int) =>
      fetterlockref6_DiagramFault.p28 Q Y14 x1 x3 p_10 (decide (v_16 ≥ 16)) H_12))
    (fetterlockref6_DiagramFault.l45 Q x1 0 H)
def fetterlockref6_DiagramFault.l14 (Q : AHeap → Int → Prop) (x1 : AC) (x3 : Int) (H : AHeap) : Prop := LoopT (Tup [.ac, .int .i64]) (fun Y s H => fetterlockref6_DiagramFault.b14 Q Y (s.1) (s.2.1) H) (x1, x3, ()) H
def fetterlockref6_DiagramFault.W (a0_0 : AC) (a0_1 : Int) (H : AHeap) (Q : AHeap → Int → Prop) : Prop :=
  New 27 [a0_0, (.int .i64 a0_1)] H fun p_1 H_2 =>
  FA 0 p_1 fun q_3 =>
  Ld [.ac] H_2 q_3 fun (v_4 : AC) =>
  LenS v_4 fun n_5 =>
  CondB (decide (n_5 > 2000))
    (Q H_2 3)
    (fetterlockref6_DiagramFault.l14 Q p_1 0 H_2)
theorem fetterlockref6_DiagramFault.b123_ok (Q : AHeap → Int → Prop) (Y123 : Tup [.ac, .int .i64] → AHeap → Prop) (X123 : Env → AHeap → Prop) (hX123 : ∀ s t H, fetterlockref6_DiagramFault.R123 s t → Y123 s H → X123 t H) {x8 : AC} {x9 : Int} {H : AHeap} (j : Env) : fetterlockref6_DiagramFault.b123 Q Y123 x8 x9 H → wpC Try.prog fetterlockref6_DiagramFault.c124 (upd (upd j 8 (.one x8)) 9 (.one (.int .i64 x9))) H (kSeq X123 (kBlk 6 (fetterlockref6_DiagramFault.k120 Q))) := c_seq (c_seq (c_ops (s_cons (w_put (o_mov rfl (s_cons (w_put (o_mov rfl (s_cons (w_put (o_lens rfl (fun n_1 => s_cons (w_put (o_lt rfl rfl (s_nil (k_seq (c_if rfl (c_skip (k_seq (c_seq (c_blk (c_seq (c_ops (s_cons (w_put (o_mov rfl (s_cons (w_put (o_mov rfl (s_cons (w_put (o_ia rfl rfl (fun q_2 => s_cons (w_put (o_ld1 rfl (fun (v_3 : Int) => s_cons (w_put (o_mov rfl (s_cons (w_put (o_ne rfl rfl (s_nil (k_seq (c_if rfl (c_seq (c_ops (s_cons (w_put (o_mov rfl (s_nil (k_seq (c_ret (k_blkR (k_seqR (k_seqR (k_blkR (k_seqR (k_topR (r_one rfl (r_nil (fun h => ⟨((2 : Int), ()), rfl, h⟩))))))))))))))))) (c_skip (k_blk (k_seq (c_ops (s_cons (w_put (o_mov rfl (s_cons (w_put (o_add rfl rfl (s_cons (w_put (o_mov rfl (s_nil (k_seq (hX123 _ _ _ ⟨rfl, rfl, trivial⟩))))))))))))))))))))))))))))))))))))))))))) (c_exit (k_seqE (k_seqE (k_blkH (k_seq (c_seq (c_ops (s_cons (w_put (o_mov rfl (s_nil (k_seq (c_ret (k_topR (r_one rfl (r_nil (fun h => ⟨((0 : Int), ()), rfl, h⟩))))))))))))))))))))))))))))))))))
theorem fetterlockref6_DiagramFault.l123_ok (Q : AHeap → Int → Prop) {x8 : AC} {x9 : Int} {H : AHeap} {t : Env} (h8 : t 8 = (.one x8)) (h9 : t 9 = (.one (.int .i64 x9))) : fetterlockref6_DiagramFault.l123 Q x8 x9 H → wpC Try.prog (.loop fetterlockref6_DiagramFault.c124) t H (kBlk 6 (fetterlockref6_DiagramFault.k120 Q)) :=
  m_loop fetterlockref6_DiagramFault.R123 ⟨h8, h9, trivial⟩ fun X Y hX s t H hR hB => by
    have g := fetterlockref6_DiagramFault.b123_ok Q Y X hX t hB
    rw [upd_self hR.1] at g
    rw [upd_self hR.2.1] at g
    exact g
theorem fetterlockref6_DiagramFault.p92_okE (Q : AHeap → Int → Prop) {x128 : Bool} {H : AHeap} (j : Env) : fetterlockref6_DiagramFault.p92 Q x128 H → wpC Try.prog fetterlockref6_DiagramFault.c92 (upd j 128 (.one (.bool x128))) H (fetterlockref6_DiagramFault.k90 Q) := c_if rfl (c_seq (c_ops (s_cons (w_put (o_mov rfl (s_nil (k_seq (c_ret (k_seqR (k_seqR (k_topR (r_one rfl (r_nil (fun h => ⟨((2 : Int), ()), rfl, h⟩)))))))))))))) (c_skip (k_seq (c_seq (c_ops (s_cons (w_put (o_mov rfl (s_nil (k_seq (c_ret (k_seqR (k_topR (r_one rfl (r_nil (fun h => ⟨((0 : Int), ()), rfl, h⟩)))))))))))))))
theorem fetterlockref6_DiagramFault.p92_ok (Q : AHeap → Int → Prop) {x128 : Bool} {H : AHeap} {t : Env} (h128 : t 128 = (.one (.bool x128))) (h : fetterlockref6_DiagramFault.p92 Q x128 H) : wpC Try.prog fetterlockref6_DiagramFault.c92 t H (fetterlockref6_DiagramFault.k90 Q) := by
  have g := fetterlockref6_DiagramFault.p92_okE Q t h
  rw [upd_self h128] at g
  exact g
theorem fetterlockref6_DiagramFault.b67_ok (Q : AHeap → Int → Prop) (Y45 : Tup [.ac, .int .i64] → AHeap → Prop) (X45 : Env → AHeap → Prop) (hX45 : ∀ s t H, fetterlockref6_DiagramFault.R45 s t → Y45 s H → X45 t H) (Y67 : Tup [.ac, .int .i64, .ac, .int .i64] → AHeap → Prop) (X67 : Env → AHeap → Prop) (hX67 : ∀ s t H, fetterlockref6_DiagramFault.R67 s t → Y67 s H → X67 t H) {x1 : AC} {x5 : Int} {x6 : AC} {x7 : Int} {H : AHeap} (j : Env) : fetterlockref6_DiagramFault.b67 Q Y45 Y67 x1 x5 x6 x7 H → wpC Try.prog fetterlockref6_DiagramFault.c68 (upd (upd (upd (upd j 1 (.one x1)) 5 (.one (.int .i64 x5))) 6 (.one x6)) 7 (.one (.int .i64 x7))) H (kSeq X67 (kBlk 4 (kBlk 3 (fetterlockref6_DiagramFault.k53 Q X45)))) := c_seq (c_seq (c_ops (s_cons (w_put (o_mov rfl (s_cons (w_put (o_mov rfl (s_cons (w_put (o_lt rfl rfl (s_nil (k_seq (c_if rfl (c_skip (k_seq (c_seq (c_blk (c_seq (c_ops (s_cons (w_put (o_fa rfl (fun q_1 => s_cons (w_put (o_ld1 rfl (fun (v_2 : AC) => s_cons (w_put (o_mov rfl (s_cons (w_put (o_ia rfl rfl (fun q_3 => s_cons (w_put (o_ld3 rfl (fun (v_4 : Int) (v_5 : Int) (v_6 : Int) => s_cons (w_put (o_ld3 rfl (fun (v_7 : Int) (v_8 : Int) (v_9 : Int) => s_cons (w_put (o_eqa rfl rfl rfl rfl rfl (s_nil (k_seq (c_if rfl (c_seq (c_ops (s_cons (w_put (o_mov rfl (s_nil (k_seq (c_ret (k_blkR (k_seqR (k_seqR (k_blkR (k_blkR (k_seqR (k_seqR (k_blkR (k_seqR (k_topR (r_one rfl (r_nil (fun h => ⟨((2 : Int), ()), rfl, h⟩))))))))))))))))))))) (c_skip (k_blk (k_seq (c_ops (s_cons (w_put (o_mov rfl (s_cons (w_put (o_add rfl rfl (s_cons (w_put (o_mov rfl (s_nil (k_seq (hX67 _ _ _ ⟨rfl, rfl, rfl, rfl, trivial⟩)))))))))))))))))))))))))))))))))))))))))))))) (c_exit (k_seqE (k_seqE (k_blkH (k_blk (k_seq (c_ops (s_cons (w_put (o_mov rfl (s_cons (w_put (o_add rfl rfl (s_cons (w_put (o_mov rfl (s_nil (k_seq (hX45 _ _ _ ⟨rfl, rfl, trivial⟩)))))))))))))))))))))))))))))))))
theorem fetterlockref6_DiagramFault.l67_ok (Q : AHeap → Int → Prop) (Y45 : Tup [.ac, .int .i64] → AHeap → Prop) (X45 : Env → AHeap → Prop) (hX45 : ∀ s t H, fetterlockref6_DiagramFault.R45 s t → Y45 s H → X45 t H) {x1 : AC} {x5 : Int} {x6 : AC} {x7 : Int} {H : AHeap} {t : Env} (h1 : t 1 = (.one x1)) (h5 : t 5 = (.one (.int .i64 x5))) (h6 : t 6 = (.one x6)) (h7 : t 7 = (.one (.int .i64 x7))) : fetterlockref6_DiagramFault.l67 Q Y45 x1 x5 x6 x7 H → wpC Try.prog (.loop fetterlockref6_DiagramFault.c68) t H (kBlk 4 (kBlk 3 (fetterlockref6_DiagramFault.k53 Q X45))) :=
  m_loop fetterlockref6_DiagramFault.R67 ⟨h1, h5, h6, h7, trivial⟩ fun X Y hX s t H hR hB => by
    have g := fetterlockref6_DiagramFault.b67_ok Q Y45 X45 hX45 Y X hX t hB
    rw [upd_self hR.1] at g
    rw [upd_self hR.2.1] at g
    rw [upd_self hR.2.2.1] at g
    rw [upd_self hR.2.2.2.1] at g
    exact g
theorem fetterlockref6_DiagramFault.p59_okE (Q : AHeap → Int → Prop) (Y45 : Tup [.ac, .int .i64] → AHeap → Prop) (X45 : Env → AHeap → Prop) (hX45 : ∀ s t H, fetterlockref6_DiagramFault.R45 s t → Y45 s H → X45 t H) {x1 : AC} {x5 : Int} {x6 : AC} {x104 : Bool} {H : AHeap} (j : Env) : fetterlockref6_DiagramFault.p59 Q Y45 x1 x5 x6 x104 H → wpC Try.prog fetterlockref6_DiagramFault.c59 (upd (upd (upd (upd j 1 (.one x1)) 5 (.one (.int .i64 x5))) 6 (.one x6)) 104 (.one (.bool x104))) H (fetterlockref6_DiagramFault.k57 Q X45) := c_if rfl (c_seq (c_ops (s_cons (w_put (o_mov rfl (s_nil (k_seq (c_ret (k_seqR (k_blkR (k_seqR (k_seqR (k_blkR (k_seqR (k_topR (r_one rfl (r_nil (fun h => ⟨((2 : Int), ()), rfl, h⟩)))))))))))))))))) (c_skip (k_seq (c_seq (c_ops (s_cons (w_put (o_mov rfl (s_nil (k_seq (c_blk (fetterlockref6_DiagramFault.l67_ok Q Y45 X45 hX45 rfl rfl rfl rfl)))))))))))
theorem fetterlockref6_DiagramFault.p59_ok (Q : AHeap → Int → Prop) (Y45 : Tup [.ac, .int .i64] → AHeap → Prop) (X45 : Env → AHeap → Prop) (hX45 : ∀ s t H, fetterlockref6_DiagramFault.R45 s t → Y45 s H → X45 t H) {x1 : AC} {x5 : Int} {x6 : AC} {x104 : Bool} {H : AHeap} {t : Env} (h1 : t 1 = (.one x1)) (h5 : t 5 = (.one (.int .i64 x5))) (h6 : t 6 = (.one x6)) (h104 : t 104 = (.one (.bool x104))) (h : fetterlockref6_DiagramFault.p59 Q Y45 x1 x5 x6 x104 H) : wpC Try.prog fetterlockref6_DiagramFault.c59 t H (fetterlockref6_DiagramFault.k57 Q X45) := by
  have g := fetterlockref6_DiagramFault.p59_okE Q Y45 X45 hX45 t h
  rw [upd_self h1] at g
  rw [upd_self h5] at g
  rw [upd_self h6] at g
  rw [upd_self h104] at g
  exact g
theorem fetterlockref6_DiagramFault.b45_ok (Q : AHeap → Int → Prop) (Y45 : Tup [.ac, .int .i64] → AHeap → Prop) (X45 : Env → AHeap → Prop) (hX45 : ∀ s t H, fetterlockref6_DiagramFault.R45 s t → Y45 s H → X45 t H) {x1 : AC} {x5 : Int} {H : AHeap} (j : Env) : fetterlockref6_DiagramFault.b45 Q Y45 x1 x5 H → wpC Try.prog fetterlockref6_DiagramFault.c46 (upd (upd j 1 (.one x1)) 5 (.one (.int .i64 x5))) H (kSeq X45 (kBlk 2 (fetterlockref6_DiagramFault.k42 Q))) := c_seq (c_seq (c_ops (s_cons (w_put (o_mov rfl (s_cons (w_put (o_fa rfl (fun q_1 => s_cons (w_put (o_ld1 rfl (fun (v_2 : AC) => s_cons (w_put (o_lens rfl (fun n_3 => s_cons (w_put (o_lt rfl rfl (s_nil (k_seq (c_if rfl (c_skip (k_seq (c_seq (c_blk (c_seq (c_ops (s_cons (w_put (o_fa rfl (fun q_4 => s_cons (w_put (o_ld1 rfl (fun (v_5 : AC) => s_cons (w_put (o_mov rfl (s_cons (w_put (o_ia rfl rfl (fun q_6 => s_cons (w_put (o_ld3 rfl (fun (v_7 : Int) (v_8 : Int) (v_9 : Int) => s_cons (w_put (o_new (fun p_10 H_11 => s_cons (w_run (o_st rfl rfl rfl (fun H_12 => s_nil (k_seq (c_seq (c_seq (c_ops (s_cons (w_put (o_fa rfl (fun q_13 => s_cons (w_put (o_ld1 rfl (fun (v_14 : Int) => s_cons (w_put (o_fa rfl (fun q_15 => s_cons (w_put (o_ld1 rfl (fun (v_16 : Int) => s_cons (w_put (o_eq rfl rfl (s_cons (w_put (o_mov rfl (s_cons (w_gputF rfl (s_cons (w_gputN rfl (s_cons (w_gputN rfl (s_cons (w_gputN rfl (s_cons (w_gputJ rfl (s_cons (w_gputJ rfl (s_cons (w_gputJ rfl (s_cons (w_gputJ rfl (s_cons (w_gputJ rfl (s_cons (w_gputJ rfl (s_cons (w_gputJ rfl (s_cons (w_gputJ rfl (s_cons (w_gputJ rfl (s_cons (w_gputJ rfl (s_cons (w_gputN rfl (s_cons (w_put (o_pickT rfl rfl (s_cons (w_put (o_mov rfl (s_cons (w_gputN rfl (s_cons (w_gputN rfl (s_cons (w_gputN rfl (s_cons (w_gputN rfl (s_cons (w_gputJ rfl (s_cons (w_gputJ rfl (s_cons (w_gputJ rfl (s_cons (w_gputJ rfl (s_cons (w_gputJ rfl (s_cons (w_gputJ rfl (s_cons (w_gputJ rfl (s_cons (w_gputJ rfl (s_cons (w_gputJ rfl (s_cons (w_gputJ rfl (s_cons (w_gputN rfl (s_cons (w_put (o_pickT rfl rfl (s_nil (k_seq (fetterlockref6_DiagramFault.p59_ok Q Y45 X45 hX45 rfl rfl rfl rfl)))))))))))))))))))))))))))))))))))))))))))))))))))))))))))))))))))))) (o_fa rfl (fun q_17 => s_cons (w_gputY rfl (o_ld1 rfl (fun (v_18 : Int) => s_cons (w_gputY rfl (o_ge rfl rfl (s_cons (w_gputY rfl (o_mov rfl (s_cons (w_gputT rfl (o_fa rfl (fun q_19 => s_cons (w_gputY rfl (o_ld1 rfl (fun (v_20 : AC) => s_cons (w_gputY rfl (o_fa rfl (fun q_21 => s_cons (w_gputY rfl (o_ld1 rfl (fun (v_22 : Int) => s_cons (w_gputY rfl (o_ia rfl rfl (fun q_23 => s_cons (w_gputY rfl (o_fa rfl (fun q_24 => s_cons (w_gputY rfl (o_ld1 rfl (fun (v_25 : Int) => s_cons (w_gputY rfl (o_fa rfl (fun q_26 => s_cons (w_gputY rfl (o_ld1 rfl (fun (v_27 : Int) => s_cons (w_gputY rfl (o_le rfl rfl (s_cons (w_gputY rfl (o_pickT rfl rfl (s_cons (w_put (o_pickF rfl rfl (s_cons (w_put (o_mov rfl (s_cons (w_gputF rfl (s_cons (w_gputN rfl (s_cons (w_gputN rfl (s_cons (w_gputN rfl (s_cons (w_gputJ rfl (s_cons (w_gputJ rfl (s_cons (w_gputJ rfl (s_cons (w_gputJ rfl (s_cons (w_gputJ rfl (s_cons (w_gputJ rfl (s_cons (w_gputJ rfl (s_cons (w_gputJ rfl (s_cons (w_gputJ rfl (s_cons (w_gputJ rfl (s_cons (w_gputN rfl (s_cons (w_put (o_pickT rfl rfl (s_nil (k_seq (fetterlockref6_DiagramFault.p59_ok Q Y45 X45 hX45 rfl rfl rfl rfl)))))))))))))))))))))))))))))))))) (o_fa rfl (fun q_28 => s_cons (w_gputY rfl (o_ld1 rfl (fun (v_29 : Int) => s_cons (w_gputY rfl (o_ge rfl rfl (s_cons (w_gputY rfl (o_mov rfl (s_cons (w_gputT rfl (o_fa rfl (fun q_30 => s_cons (w_gputY rfl (o_ld1 rfl (fun (v_31 : AC) => s_cons (w_gputY rfl (o_fa rfl (fun q_32 => s_cons (w_gputY rfl (o_ld1 rfl (fun (v_33 : Int) => s_cons (w_gputY rfl (o_ia rfl rfl (fun q_34 => s_cons (w_gputY rfl (o_fa rfl (fun q_35 => s_cons (w_gputY rfl (o_ld1 rfl (fun (v_36 : Int) => s_cons (w_gputY rfl (o_fa rfl (fun q_37 => s_cons (w_gputY rfl (o_ld1 rfl (fun (v_38 : Int) => s_cons (w_gputY rfl (o_le rfl rfl (s_cons (w_gputY rfl (o_pickT rfl rfl (s_cons (w_put (o_pickF rfl rfl (s_nil (k_seq (fetterlockref6_DiagramFault.p59_ok Q Y45 X45 hX45 rfl rfl rfl rfl))))))))))))))))))))))))))))))))))))) (s_cons (w_gputN rfl (s_cons (w_gputN rfl (s_cons (w_gputN rfl (s_cons (w_gputN rfl (s_cons (w_gputN rfl (s_cons (w_gputN rfl (s_cons (w_gputN rfl (s_cons (w_gputN rfl (s_cons (w_gputN rfl (s_cons (w_gputY rfl (o_pickF rfl rfl (s_cons (w_put (o_pickF rfl rfl (s_nil (k_seq (fetterlockref6_DiagramFault.p59_ok Q Y45 X45 hX45 rfl rfl rfl rfl)))))))))))))))))))))))))))))))))))))))))))))))))))))))))))))))))))))))))))))) (s_cons (w_gputN rfl (s_cons (w_gputN rfl (s_cons (w_gputN rfl (s_cons (w_gputN rfl (s_cons (w_gputN rfl (s_cons (w_gputN rfl (s_cons (w_gputN rfl (s_cons (w_gputN rfl (s_cons (w_gputN rfl (s_cons (w_gputY rfl (o_pickF rfl rfl (s_cons (w_put (o_pickF rfl rfl (s_cons (w_put (o_mov rfl (s_cons (w_gputY rfl (o_fa rfl (fun q_39 => s_cons (w_gputY rfl (o_ld1 rfl (fun (v_40 : Int) => s_cons (w_gputY rfl (o_ge rfl rfl (s_cons (w_gputY rfl (o_mov rfl (s_cons (w_gputT rfl (o_fa rfl (fun q_41 => s_cons (w_gputY rfl (o_ld1 rfl (fun (v_42 : AC) => s_cons (w_gputY rfl (o_fa rfl (fun q_43 => s_cons (w_gputY rfl (o_ld1 rfl (fun (v_44 : Int) => s_cons (w_gputY rfl (o_ia rfl rfl (fun q_45 => s_cons (w_gputY rfl (o_fa rfl (fun q_46 => s_cons (w_gputY rfl (o_ld1 rfl (fun (v_47 : Int) => s_cons (w_gputY rfl (o_fa rfl (fun q_48 => s_cons (w_gputY rfl (o_ld1 rfl (fun (v_49 : Int) => s_cons (w_gputY rfl (o_le rfl rfl (s_cons (w_gputY rfl (o_pickT rfl rfl (s_cons (w_put (o_pickF rfl rfl (s_nil (k_seq (fetterlockref6_DiagramFault.p59_ok Q Y45 X45 hX45 rfl rfl rfl rfl))))))))))))))))))))))))))))))))))))) (s_cons (w_gputN rfl (s_cons (w_gputN rfl (s_cons (w_gputN rfl (s_cons (w_gputN rfl (s_cons (w_gputN rfl (s_cons (w_gputN rfl (s_cons (w_gputN rfl (s_cons (w_gputN rfl (s_cons (w_gputN rfl (s_cons (w_gputY rfl (o_pickF rfl rfl (s_cons (w_put (o_pickF rfl rfl (s_nil (k_seq (fetterlockref6_DiagramFault.p59_ok Q Y45 X45 hX45 rfl rfl rfl rfl)))))))))))))))))))))))))))))))))))))))))))))))))))))))))))))))))))))))))))))))))))))))))))))))))))))))))))))))))))))))))))))))))))) (c_exit (k_seqE (k_seqE (k_blkH (k_seq (c_seq (c_seq (c_ops (s_cons (w_put (o_fa rfl (fun q_50 => s_cons (w_put (o_ld1 rfl (fun (v_51 : AC) => s_cons (w_put (o_lens rfl (fun n_52 => s_cons (w_put (o_eq rfl rfl (s_nil (k_seq (c_if rfl (c_seq (c_seq (c_ops (s_cons (w_put (o_fa rfl (fun q_53 => s_cons (w_put (o_ld1 rfl (fun (v_54 : Int) => s_cons (w_put (o_ne rfl rfl (s_cons (w_put (o_mov rfl (s_cons (w_gputT rfl (o_fa rfl (fun q_55 => s_cons (w_gputY rfl (o_ld1 rfl (fun (v_56 : Int) => s_cons (w_gputY rfl (o_ne rfl rfl (s_cons (w_put (o_pickT rfl rfl (s_nil (k_seq (fetterlockref6_DiagramFault.p92_ok Q rfl))))))))))))) (s_cons (w_gputN rfl (s_cons (w_gputN rfl (s_cons (w_put (o_pickF rfl rfl (s_nil (k_seq (fetterlockref6_DiagramFault.p92_ok Q rfl))))))))))))))))))))))))))) (c_skip (k_seq (c_seq (c_seq (c_ops (s_cons (w_put (o_fa rfl (fun q_57 => s_cons (w_put (o_ld1 rfl (fun (v_58 : Int) => s_cons (w_put (o_fa rfl (fun q_59 => s_cons (w_put (o_ld1 rfl (fun (v_60 : AC) => s_cons (w_put (o_lens rfl (fun n_61 => s_cons (w_put (o_sub rfl rfl (s_cons (w_put (o_ne rfl rfl (s_nil (k_seq (c_if rfl (c_seq (c_ops (s_cons (w_put (o_mov rfl (s_nil (k_seq (c_ret (k_seqR (k_topR (r_one rfl (r_nil (fun h => ⟨((2 : Int), ()), rfl, h⟩))))))))))))) (c_skip (k_seq (c_seq (c_ops (s_cons (w_put (o_ld2 rfl (fun (v_62 : AC) (v_63 : Int) => s_cons (w_put (o_fa rfl (fun q_64 => s_cons (w_put (o_ld1 rfl (fun (v_65 : Int) => s_cons (w_put (o_call rfl (cv_1 (fun H_66 (v_67 : AC) => s_cons (w_put (o_mov rfl (s_nil (k_seq (c_seq (c_seq (c_ops (s_cons (w_put (o_mov rfl (s_cons (w_put (o_lens rfl (fun n_68 => s_cons (w_put (o_fa rfl (fun q_69 => s_cons (w_put (o_ld1 rfl (fun (v_70 : AC) => s_cons (w_put (o_lens rfl (fun n_71 => s_cons (w_put (o_ne rfl rfl (s_nil (k_seq (c_if rfl (c_seq (c_ops (s_cons (w_put (o_mov rfl (s_nil (k_seq (c_ret (k_seqR (k_topR (r_one rfl (r_nil (fun h => ⟨((2 : Int), ()), rfl, h⟩))))))))))))) (c_skip (k_seq (c_seq (c_seq (c_ops (s_cons (w_put (o_mov rfl (s_nil (k_seq (c_blk (fetterlockref6_DiagramFault.l123_ok Q rfl rfl))))))))))))))))))))))))))))))))))))))))))))))))))))))))))))))))))))))))))))))))))))))))))))))))))))))))))))))))))))))))))))))))))
theorem fetterlockref6_DiagramFault.l45_ok (Q : AHeap → Int → Prop) {x1 : AC} {x5 : Int} {H : AHeap} {t : Env} (h1 : t 1 = (.one x1)) (h5 : t 5 = (.one (.int .i64 x5))) : fetterlockref6_DiagramFault.l45 Q x1 x5 H → wpC Try.prog (.loop fetterlockref6_DiagramFault.c46) t H (kBlk 2 (fetterlockref6_DiagramFault.k42 Q)) :=
  m_loop fetterlockref6_DiagramFault.R45 ⟨h1, h5, trivial⟩ fun X Y hX s t H hR hB => by
    have g := fetterlockref6_DiagramFault.b45_ok Q Y X hX t hB
    rw [upd_self hR.1] at g
    rw [upd_self hR.2.1] at g
    exact g
theorem fetterlockref6_DiagramFault.p35_okE (Q : AHeap → Int → Prop) (Y14 : Tup [.ac, .int .i64] → AHeap → Prop) (X14 : Env → AHeap → Prop) (hX14 : ∀ s t H, fetterlockref6_DiagramFault.R14 s t → Y14 s H → X14 t H) {x1 : AC} {x3 : Int} {x53 : Bool} {H : AHeap} (j : Env) : fetterlockref6_DiagramFault.p35 Q Y14 x1 x3 x53 H → wpC Try.prog fetterlockref6_DiagramFault.c35 (upd (upd (upd j 1 (.one x1)) 3 (.one (.int .i64 x3))) 53 (.one (.bool x53))) H (kBlk 1 (fetterlockref6_DiagramFault.k22 Q X14)) := c_if rfl (c_seq (c_ops (s_cons (w_put (o_mov rfl (s_nil (k_seq (c_ret (k_blkR (k_seqR (k_seqR (k_blkR (k_seqR (k_topR (r_one rfl (r_nil (fun h => ⟨((2 : Int), ()), rfl, h⟩))))))))))))))))) (c_skip (k_blk (k_seq (c_ops (s_cons (w_put (o_mov rfl (s_cons (w_put (o_add rfl rfl (s_cons (w_put (o_mov rfl (s_nil (k_seq (hX14 _ _ _ ⟨rfl, rfl, trivial⟩))))))))))))))))
theorem fetterlockref6_DiagramFault.p35_ok (Q : AHeap → Int → Prop) (Y14 : Tup [.ac, .int .i64] → AHeap → Prop) (X14 : Env → AHeap → Prop) (hX14 : ∀ s t H, fetterlockref6_DiagramFault.R14 s t → Y14 s H → X14 t H) {x1 : AC} {x3 : Int} {x53 : Bool} {H : AHeap} {t : Env} (h1 : t 1 = (.one x1)) (h3 : t 3 = (.one (.int .i64 x3))) (h53 : t 53 = (.one (.bool x53))) (h : fetterlockref6_DiagramFault.p35 Q Y14 x1 x3 x53 H) : wpC Try.prog fetterlockref6_DiagramFault.c35 t H (kBlk 1 (fetterlockref6_DiagramFault.k22 Q X14)) := by
  have g := fetterlockref6_DiagramFault.p35_okE Q Y14 X14 hX14 t h
  rw [upd_self h1] at g
  rw [upd_self h3] at g
  rw [upd_self h53] at g
  exact g
theorem fetterlockref6_DiagramFault.p28_okE (Q : AHeap → Int → Prop) (Y14 : Tup [.ac, .int .i64] → AHeap → Prop) (X14 : Env → AHeap → Prop) (hX14 : ∀ s t H, fetterlockref6_DiagramFault.R14 s t → Y14 s H → X14 t H) {x1 : AC} {x3 : Int} {x4 : AC} {x33 : Bool} {H : AHeap} (j : Env) : fetterlockref6_DiagramFault.p28 Q Y14 x1 x3 x4 x33 H → wpC Try.prog fetterlockref6_DiagramFault.c28 (upd (upd (upd (upd j 1 (.one x1)) 3 (.one (.int .i64 x3))) 4 (.one x4)) 33 (.one (.bool x33))) H (fetterlockref6_DiagramFault.k26 Q X14) := c_if rfl (c_seq (c_ops (s_cons (w_put (o_mov rfl (s_nil (k_seq (c_ret (k_seqR (k_blkR (k_seqR (k_seqR (k_blkR (k_seqR (k_topR (r_one rfl (r_nil (fun h => ⟨((1 : Int), ()), rfl, h⟩)))))))))))))))))) (c_skip (k_seq (c_seq (c_ops (s_cons (w_put (o_fa rfl (fun q_1 => s_cons (w_put (o_ld1 rfl (fun (v_2 : Int) => s_cons (w_put (o_lt rfl rfl (s_cons (w_put (o_mov rfl (s_cons (w_gputF rfl (s_cons (w_gputN rfl (s_cons (w_gputN rfl (s_cons (w_gputN rfl (s_cons (w_put (o_pickT rfl rfl (s_cons (w_put (o_mov rfl (s_cons (w_gputN rfl (s_cons (w_gputN rfl (s_cons (w_gputN rfl (s_cons (w_put (o_pickT rfl rfl (s_cons (w_put (o_mov rfl (s_cons (w_gputN rfl (s_cons (w_gputN rfl (s_cons (w_gputN rfl (s_cons (w_gputN rfl (s_cons (w_put (o_pickT rfl rfl (s_nil (k_seq (fetterlockref6_DiagramFault.p35_ok Q Y14 X14 hX14 rfl rfl rfl)))))))))))))))))))))))))))))))))))))) (o_fa rfl (fun q_3 => s_cons (w_gputY rfl (o_ld1 rfl (fun (v_4 : Int) => s_cons (w_gputY rfl (o_mov rfl (s_cons (w_gputY rfl (o_ge rfl rfl (s_cons (w_put (o_pickF rfl rfl (s_cons (w_put (o_mov rfl (s_cons (w_gputF rfl (s_cons (w_gputN rfl (s_cons (w_gputN rfl (s_cons (w_put (o_pickT rfl rfl (s_cons (w_put (o_mov rfl (s_cons (w_gputN rfl (s_cons (w_gputN rfl (s_cons (w_gputN rfl (s_cons (w_gputN rfl (s_cons (w_put (o_pickT rfl rfl (s_nil (k_seq (fetterlockref6_DiagramFault.p35_ok Q Y14 X14 hX14 rfl rfl rfl)))))))))))))))))))))))) (o_fa rfl (fun q_5 => s_cons (w_gputY rfl (o_ld1 rfl (fun (v_6 : Int) => s_cons (w_gputY rfl (o_lt rfl rfl (s_cons (w_put (o_pickF rfl rfl (s_cons (w_put (o_mov rfl (s_cons (w_gputF rfl (s_cons (w_gputN rfl (s_cons (w_gputN rfl (s_cons (w_gputN rfl (s_cons (w_put (o_pickT rfl rfl (s_nil (k_seq (fetterlockref6_DiagramFault.p35_ok Q Y14 X14 hX14 rfl rfl rfl)))))))))))) (o_fa rfl (fun q_7 => s_cons (w_gputY rfl (o_ld1 rfl (fun (v_8 : Int) => s_cons (w_gputY rfl (o_mov rfl (s_cons (w_gputY rfl (o_ge rfl rfl (s_cons (w_put (o_pickF rfl rfl (s_nil (k_seq (fetterlockref6_DiagramFault.p35_ok Q Y14 X14 hX14 rfl rfl rfl)))))))))))))))))))))))))))))))))))))))))))))))))))))))))))))))))))
theorem fetterlockref6_DiagramFault.p28_ok (Q : AHeap → Int → Prop) (Y14 : Tup [.ac, .int .i64] → AHeap → Prop) (X14 : Env → AHeap → Prop) (hX14 : ∀ s t H, fetterlockref6_DiagramFault.R14 s t → Y14 s H → X14 t H) {x1 : AC} {x3 : Int} {x4 : AC} {x33 : Bool} {H : AHeap} {t : Env} (h1 : t 1 = (.one x1)) (h3 : t 3 = (.one (.int .i64 x3))) (h4 : t 4 = (.one x4)) (h33 : t 33 = (.one (.bool x33))) (h : fetterlockref6_DiagramFault.p28 Q Y14 x1 x3 x4 x33 H) : wpC Try.prog fetterlockref6_DiagramFault.c28 t H (fetterlockref6_DiagramFault.k26 Q X14) := by
  have g := fetterlockref6_DiagramFault.p28_okE Q Y14 X14 hX14 t h
  rw [upd_self h1] at g
  rw [upd_self h3] at g
  rw [upd_self h4] at g
  rw [upd_self h33] at g
  exact g
theorem fetterlockref6_DiagramFault.b14_ok (Q : AHeap → Int → Prop) (Y14 : Tup [.ac, .int .i64] → AHeap → Prop) (X14 : Env → AHeap → Prop) (hX14 : ∀ s t H, fetterlockref6_DiagramFault.R14 s t → Y14 s H → X14 t H) {x1 : AC} {x3 : Int} {H : AHeap} (j : Env) : fetterlockref6_DiagramFault.b14 Q Y14 x1 x3 H → wpC Try.prog fetterlockref6_DiagramFault.c15 (upd (upd j 1 (.one x1)) 3 (.one (.int .i64 x3))) H (kSeq X14 (kBlk 0 (fetterlockref6_DiagramFault.k11 Q))) := c_seq (c_seq (c_ops (s_cons (w_put (o_mov rfl (s_cons (w_put (o_fa rfl (fun q_1 => s_cons (w_put (o_ld1 rfl (fun (v_2 : AC) => s_cons (w_put (o_lens rfl (fun n_3 => s_cons (w_put (o_lt rfl rfl (s_nil (k_seq (c_if rfl (c_skip (k_seq (c_seq (c_blk (c_seq (c_ops (s_cons (w_put (o_fa rfl (fun q_4 => s_cons (w_put (o_ld1 rfl (fun (v_5 : AC) => s_cons (w_put (o_mov rfl (s_cons (w_put (o_ia rfl rfl (fun q_6 => s_cons (w_put (o_ld3 rfl (fun (v_7 : Int) (v_8 : Int) (v_9 : Int) => s_cons (w_put (o_new (fun p_10 H_11 => s_cons (w_run (o_st rfl rfl rfl (fun H_12 => s_nil (k_seq (c_seq (c_seq (c_ops (s_cons (w_put (o_fa rfl (fun q_13 => s_cons (w_put (o_ld1 rfl (fun (v_14 : Int) => s_cons (w_put (o_lt rfl rfl (s_cons (w_put (o_mov rfl (s_cons (w_gputF rfl (s_cons (w_gputN rfl (s_cons (w_gputN rfl (s_cons (w_put (o_pickT rfl rfl (s_nil (k_seq (fetterlockref6_DiagramFault.p28_ok Q Y14 X14 hX14 rfl rfl rfl rfl)))))))))) (o_fa rfl (fun q_15 => s_cons (w_gputY rfl (o_ld1 rfl (fun (v_16 : Int) => s_cons (w_gputY rfl (o_ge rfl rfl (s_cons (w_put (o_pickF rfl rfl (s_nil (k_seq (fetterlockref6_DiagramFault.p28_ok Q Y14 X14 hX14 rfl rfl rfl rfl))))))))))))))))))))))))))))))))))))))))))))))))))))))))))) (c_exit (k_seqE (k_seqE (k_blkH (k_seq (c_seq (c_seq (c_ops (s_cons (w_put (o_mov rfl (s_nil (k_seq (c_blk (fetterlockref6_DiagramFault.l45_ok Q rfl rfl)))))))))))))))))))))))))))))))))))
theorem fetterlockref6_DiagramFault.l14_ok (Q : AHeap → Int → Prop) {x1 : AC} {x3 : Int} {H : AHeap} {t : Env} (h1 : t 1 = (.one x1)) (h3 : t 3 = (.one (.int .i64 x3))) : fetterlockref6_DiagramFault.l14 Q x1 x3 H → wpC Try.prog (.loop fetterlockref6_DiagramFault.c15) t H (kBlk 0 (fetterlockref6_DiagramFault.k11 Q)) :=
  m_loop fetterlockref6_DiagramFault.R14 ⟨h1, h3, trivial⟩ fun X Y hX s t H hR hB => by
    have g := fetterlockref6_DiagramFault.b14_ok Q Y X hX t hB
    rw [upd_self hR.1] at g
    rw [upd_self hR.2.1] at g
    exact g
theorem fetterlockref6_DiagramFault.ok {a0_0 : AC} {a0_1 : Int} {H : AHeap} (Q : AHeap → Int → Prop) : fetterlockref6_DiagramFault.W a0_0 a0_1 H Q → wpF Try.prog fetterlockref6_DiagramFault.c [.tm 2] (envOf [(.agg [a0_0, (.int .i64 a0_1)])]) H (fetterlockref6_DiagramFault.KQ Q) := c_seq (c_ops (s_cons (w_put (o_box rfl (fun p_1 H_2 => s_cons (w_put (o_mov rfl (s_nil (k_seq (c_seq (c_seq (c_ops (s_cons (w_put (o_fa rfl (fun q_3 => s_cons (w_put (o_ld1 rfl (fun (v_4 : AC) => s_cons (w_put (o_lens rfl (fun n_5 => s_cons (w_put (o_gt rfl rfl (s_nil (k_seq (c_if rfl (c_seq (c_ops (s_cons (w_put (o_mov rfl (s_nil (k_seq (c_ret (k_seqR (k_topR (r_one rfl (r_nil (fun h => ⟨((3 : Int), ()), rfl, h⟩))))))))))))) (c_skip (k_seq (c_seq (c_seq (c_ops (s_cons (w_put (o_mov rfl (s_nil (k_seq (c_blk (fetterlockref6_DiagramFault.l14_ok Q rfl rfl)))))))))))))))))))))))))))))))))))))))
theorem fetterlockref6_DiagramFault.slimOk : slimOk [(15, []), (20, [])] (Try.f29.body.getD .skip) = true := by kernel_rfl
theorem fetterlockref6_DiagramFault.resC : resC Try.prog aggs Try.f29.ntmps (slim [(15, []), (20, [])] (Try.f29.body.getD .skip)) = some fetterlockref6_DiagramFault.c := by kernel_rfl
theorem fetterlockref6_DiagramFault.resR : resR Try.prog Try.f29.results.toList = some [.tm 2] := by kernel_rfl
theorem fetterlockref6_DiagramFault.bodyEq : Try.f29.body = some (Try.f29.body.getD .skip) := by kernel_rfl
theorem fetterlockref6_DiagramFault.run {a0_0 : AC} {a0_1 : Int} {H : AHeap} {Q : AHeap → Int → Prop} (h : fetterlockref6_DiagramFault.W a0_0 a0_1 H Q) : Fn.fetterlockref6_DiagramFault a0_0 a0_1 H Q := by
  unfold Fn.fetterlockref6_DiagramFault RunT
  exact run_of aggs_ok [(15, []), (20, [])] Try.func29 fetterlockref6_DiagramFault.bodyEq fetterlockref6_DiagramFault.slimOk fetterlockref6_DiagramFault.resC fetterlockref6_DiagramFault.resR (Nat.le_of_ble_eq_true (by kernel_rfl)) (fetterlockref6_DiagramFault.ok Q h)

end Go.Proofs.Ytanaaabejeeakaa
end
section
/- Rows that are those of trees, none twice; which walk makes them all. -/
namespace Go.AI
open DT

/-- No row has equal parts, none stands twice. -/
def OneOk (l : List NRow) (i : Nat) (p : NRow) : Prop := p.2.1 ≠ p.2.2 ∧ ∀ j q, j < i → l[j]? = some q → q ≠ p
theorem atR_in {l : List NRow} {r : Int} {i : Nat} (hi : i ≤ l.length) (h1 : -2 ≤ r) (h2 : r < i) (f : Fin (bld (l.take i))) : In (bld (l.take i)) (atR (bld (l.take i)) r) ∧ ref (bld (l.take i)) (atR (bld (l.take i)) r) = r := by
  unfold atR
  by_cases e1 : r = -1
  · subst e1; exact ⟨.inl ⟨false, rfl⟩, rfl⟩
  rw [if_neg e1]
  by_cases e2 : r = -2
  · subst e2; exact ⟨.inl ⟨true, rfl⟩, rfl⟩
  rw [if_neg e2]
  have hlt : r.toNat < (bld (l.take i)).length := by rw [bld_len, List.length_take]; omega
  rw [List.getElem?_eq_getElem hlt, Option.getD_some]
  refine ⟨.inr (List.getElem_mem _), ?_⟩
  rw [ref_idx f (List.getElem?_eq_getElem hlt)]
  omega
theorem strict_seq {l : List NRow} (h : RowsOk l) (h2 : ∀ i p, l[i]? = some p → OneOk l i p) : Seq (bld l) ∧ (bld l).map (row (bld l)) = l := by
  have key : ∀ n, n ≤ l.length → Seq (bld (l.take n)) ∧ (bld (l.take n)).map (row (bld (l.take n))) = l.take n := by
    intro n
    induction n with
    | zero => intro _; exact ⟨Seq.nil, rfl⟩
    | succ n ih =>
      intro hn
      obtain ⟨s1, s2⟩ := ih (by omega)
      have hp : l[n]? = some l[n] := List.getElem?_eq_getElem (by omega)
      obtain ⟨p, hpe⟩ : ∃ p, p = l[n] := ⟨_, rfl⟩
      rw [← hpe] at hp
      obtain ⟨hnum, hord⟩ := h n p hp
      obtain ⟨hne, hdup⟩ := h2 n p hp
      have hnum' := hnum
      unfold NumOk at hnum'
      have hlen : (bld (l.take n)).length = n := by rw [bld_len, List.length_take]; omega
      obtain ⟨in1, e1⟩ := atR_in (l := l) (i := n) (r := p.2.1) (by omega) hnum'.2.2.1 hnum'.2.2.2.1 s1.1
      obtain ⟨in2, e2⟩ := atR_in (l := l) (i := n) (r := p.2.2) (by omega) hnum'.2.2.2.2.1 hnum'.2.2.2.2.2 s1.1
      obtain ⟨x, hx, hro, _⟩ := bld_ro h _ n p (Nat.lt_succ_self _) hp
      have hb := bld_at hp hnum
      rw [hb] at hx
      simp only [Option.some.injEq] at hx
      have hpre := bld_take_pre l n
      rw [atR_mono hpre hnum'.2.2.1 (by rw [hlen]; omega), atR_mono hpre hnum'.2.2.2.2.1 (by rw [hlen]; omega)] at hx
      rw [bld_take_succ hp]
      unfold bldStep
      obtain ⟨ts, hts⟩ : ∃ ts, ts = bld (l.take n) := ⟨_, rfl⟩
      rw [← hts] at s1 s2 in1 e1 in2 e2 hx hlen ⊢
      obtain ⟨a, ha⟩ : ∃ a, a = atR ts p.2.1 := ⟨_, rfl⟩
      obtain ⟨b, hb'⟩ : ∃ b, b = atR ts p.2.2 := ⟨_, rfl⟩
      rw [← ha] at in1 e1 hx ⊢
      rw [← hb'] at in2 e2 hx ⊢
      have hab : a ≠ b := fun e => hne (by rw [← e1, ← e2, e])
      have hmk : DT.mk p.1.toNat a b = nd p.1.toNat a b := by unfold DT.mk; rw [if_neg hab]
      rw [hmk] at hx ⊢
      subst hx
      have hnin : nd p.1.toNat a b ∉ ts := by
        intro hm
        obtain ⟨j, hj, e⟩ := List.getElem_of_mem hm
        have hq : (ts.map (row ts))[j]? = some (row ts (nd p.1.toNat a b)) := by rw [List.getElem?_map, List.getElem?_eq_getElem hj, e]; rfl
        rw [s2, List.getElem?_take, if_pos (by omega)] at hq
        refine hdup j _ (by omega) hq ?_
        simp only [row, e1, e2]
        refine Prod.ext ?_ rfl
        show ((p.1.toNat : Nat) : Int) = p.1
        omega
      refine ⟨s1.snoc hnin in1 in2 hro, ?_⟩
      have hp' : ts <+: ts ++ [nd p.1.toNat a b] := List.prefix_append _ _
      rw [List.map_append, s1.1.row_mono hp', s2, List.take_add_one, hp]
      simp only [List.map_cons, List.map_nil, row, ref_mono in1 hp', ref_mono in2 hp', e1, e2, Option.toList_some]
      congr 2
      refine Prod.ext ?_ rfl
      show ((p.1.toNat : Nat) : Int) = p.1
      omega
  have := key l.length (Nat.le_refl _)
  rwa [List.take_length] at this

theorem CanonD.strict {l : List NRow} {r : Int} (h : CanonD l r) : ∀ i p, l[i]? = some p → OneOk l i p := by
  obtain ⟨x, hx, rfl, rfl⟩ := h
  have f := ser_seq x [] hx Seq.nil
  intro i p hp
  rw [List.getElem?_map, Option.map_eq_some_iff] at hp
  obtain ⟨y, hy, rfl⟩ := hp
  obtain ⟨v, a, b, rfl, h1, h2, h3⟩ := f.1.parts y (List.mem_of_getElem? hy)
  refine ⟨fun e => h3.2.1 (ref_inj h1 h2 e), fun j q hj hq e => ?_⟩
  rw [List.getElem?_map, Option.map_eq_some_iff] at hq
  obtain ⟨z, hz, rfl⟩ := hq
  obtain ⟨w, c, d, rfl, g1, g2, _⟩ := f.1.parts z (List.mem_of_getElem? hz)
  simp only [row, Prod.mk.injEq] at e
  obtain ⟨e1, e2, e3⟩ := e
  have e4 := ref_inj g1 h1 e2
  have e5 := ref_inj g2 h2 e3
  have e6 : w = v := by omega
  subst e4 e5 e6
  have := ref_idx f.1 hz
  rw [ref_idx f.1 hy] at this
  omega

/-- The last of a walk is the tree itself. -/
theorem ser_last {v : Nat} {l h : DT} : ∃ st, ser (nd v l h) [] = st ++ [nd v l h] ∧ nd v l h ∉ st := by
  refine ⟨ser h (ser l []), ?_, ser_new (by simp)⟩
  simp only [ser]
  rw [if_neg (by simp)]
theorem CanonD.root {l : List NRow} {r : Int} (h : CanonD l r) : if l = [] then r = -1 ∨ r = -2 else r = (l.length : Int) - 1 := by
  obtain ⟨x, hx, rfl, rfl⟩ := h
  cases x with
  | leaf b => cases b <;> simp [ser, ref]
  | nd v a b =>
    obtain ⟨st, e, hn⟩ := ser_last (v := v) (l := a) (h := b)
    rw [e, if_neg (by simp), ref_new hn]
    simp
theorem ser_sub {st : List DT} (f : Fin st) : ∀ (x : DT) (acc : List DT), In st x → (∀ y ∈ acc, y ∈ st) → ∀ y ∈ ser x acc, y ∈ st
  | leaf _, acc, _, h, y, hy => h y hy
  | nd v l r, acc, hx, h, y, hy => by
    have hm : nd v l r ∈ st := hx.elim (fun ⟨b, e⟩ => by cases e) id
    obtain ⟨_, _, _, e, h1, h2, _⟩ := f.parts _ hm
    cases e
    simp only [ser] at hy
    split at hy
    · exact h y hy
    · rcases List.mem_append.1 hy with hy | hy
      · exact ser_sub f r _ h2 (ser_sub f l _ h1 h) y hy
      · simp at hy; subst hy; exact hm
theorem ser_all {st : List DT} {x : DT} (hl : (ser x []).length = st.length) (hi : ∀ (i : Nat) (y : DT), (ser x [])[i]? = some y → ref st y = i) (hsub : ∀ y ∈ ser x [], y ∈ st) : ser x [] = st := by
  apply List.ext_getElem?
  intro i
  by_cases h : i < st.length
  · have hy : (ser x [])[i]? = some (ser x [])[i] := List.getElem?_eq_getElem (by omega)
    have e := hi i _ hy
    have hm : In st (ser x [])[i] := .inr (hsub _ (List.getElem_mem _))
    have hg := ref_get hm (by omega)
    rw [e, Int.toNat_natCast] at hg
    rw [hy, hg]
  · rw [List.getElem?_eq_none (by omega), List.getElem?_eq_none (by omega)]
end Go.AI
end
section
/- The reference's check of a diagram. -/
namespace Go.Proofs.Ytanaaabejeeakaa
open Go.AI Go.AI.DT

/-- The numbers of some nodes. -/
def refRows (st acc : List DT) : List (List AC) := acc.map fun y => [AC.int .i64 (ref st y)]
theorem refRow_at {st acc : List DT} {i : Nat} {y : DT} (h : acc[i]? = some y) : (refRows st acc)[i]? = some [AC.int .i64 (ref st y)] := by
  unfold refRows; rw [List.getElem?_map, h]; rfl

theorem numbered_c {st : List DT} {s : AC} {r0 : Int} {H0 : AHeap} (hs : SlR H0 s 3 (nodeRows (st.map (row st)))) (hfin : Fin st) (hlen : st.length ≤ 2000) : ∀ (x : DT) {H : AHeap} {Fo : Nat → Prop} {a : AC} {acc : List DT}, In st x → Old H0 H → OwnS H a 1 Fo (refRows st acc) → (∀ y, Fo y → H0.size ≤ y) → (∀ y ∈ acc, y ∈ st) → Fin acc →
    Fn.fetterlockref6_numbered s r0 (ref st x) a H fun H' q => ∃ Fo', OwnS H' q 1 Fo' (refRows st (ser x acc)) ∧ Keep Fo H H' ∧ ∀ y, Fo' y → Fo y ∨ H.size ≤ y := by
  intro x
  induction x with
  | leaf b =>
    intro H Fo a acc hx ho ha hFo hsub hfa
    refine fetterlockref6_numbered.run ?_
    unfold fetterlockref6_numbered.W
    refine New.own fun b1 H1 hb1 hs1 o1 k1 => CondB.pos ?_ ⟨Fo, ha.kp k1, k1.mono fun _ _ h => h.elim, fun y h => .inl h⟩
    rw [decide_eq_true_iff]; exact ref_leaf.2 ⟨b, rfl⟩
  | nd v l h ihl ihh =>
    intro H Fo a acc hx ho ha hFo hsub hfa
    have h0 : 0 ≤ ref st (nd v l h) := by rw [ref_ge]; omega
    have hg := ref_get hx h0
    have hxm : nd v l h ∈ st := List.mem_of_getElem? hg
    obtain ⟨inl, inh, hro⟩ : In st l ∧ In st h ∧ (nd v l h).RO := by
      obtain ⟨_, _, _, e0, a1, a2, a3⟩ := hfin.parts _ hxm
      cases e0
      exact ⟨a1, a2, a3⟩
    have hrow : (nodeRows (st.map (row st)))[(ref st (nd v l h)).toNat]? = some (nodeCells ((v : Int), ref st l, ref st h)) := nodeRow_at (by rw [List.getElem?_map, hg]; rfl)
    refine fetterlockref6_numbered.run ?_
    unfold fetterlockref6_numbered.W
    refine New.own fun b1 H1 hb1 hs1 o1 k1 => CondB.neg (by rw [decide_eq_false_iff_not]; omega) ?_
    have ho1 := ho.kp k1
    have ha1 := ha.kp k1
    have hal : acc.length ≤ 2000 := Nat.le_trans (hfa.nodup.length_le_of_subset fun y hy => hsub y hy) hlen
    have hz0 := ho.1
    unfold fetterlockref6_numbered.l14
    refine LoopT.rule (fun m s0 H2 => ∃ i : Nat, i ≤ acc.length ∧ m = acc.length - i ∧ s0 = (ref st (nd v l h), a, .ptr (some (b1, 0)), (i : Int), ()) ∧ H2 = H1 ∧ ∀ j y, j < i → acc[j]? = some y → y ≠ nd v l h) acc.length ⟨0, by omega, by omega, rfl, rfl, fun j y hj => by omega⟩ ?_
    rintro m s0 H2 back ⟨i, hi, rfl, rfl, rfl, hall⟩ hback
    simp only [fetterlockref6_numbered.b14]
    refine LenS.of ha1.slr ?_
    rw [show (refRows st acc).length = acc.length from List.length_map ..]
    refine CondB.dec (fun hlt => ?_) fun hge => ?_
    · have hi' : i < acc.length := by omega
      obtain ⟨y, hy⟩ : ∃ b, acc[i]? = some b := ⟨_, List.getElem?_eq_getElem hi'⟩
      have hym := hsub y (List.mem_of_getElem? hy)
      refine IA.of ha1.slr (by omega) (by rw [Int.toNat_natCast]; exact refRow_at hy) fun b o hld => Ld.a1 hld (ref st y) rfl rfl ?_
      refine CondB.mk (fun hc => ?_) fun hc => ?_
      · have he : y = nd v l h := ref_inj (.inr hym) hx (by simpa using hc)
        have hser : ser (nd v l h) acc = acc := by simp only [ser]; rw [if_pos (by rw [← he]; exact List.mem_of_getElem? hy)]
        exact ⟨Fo, by rw [hser]; exact ha1, k1.mono fun _ _ h => h.elim, fun y h => .inl h⟩
      · refine hback (acc.length - (i + 1)) _ _ (by omega) ⟨i + 1, by omega, rfl, ?_, rfl, fun j z hj hz => ?_⟩
        · exact tc rfl (tc rfl (tc rfl (tc ((wrap64 (by omega) (by omega)).trans (by omega)) rfl)))
        · by_cases hji : j = i
          · subst hji
            rw [hy] at hz
            cases hz
            intro e
            rw [e] at hc
            simp at hc
          · exact hall j z (by omega) hz
    · have hnin : nd v l h ∉ acc := fun hm => by
        obtain ⟨j, hj, e⟩ := List.getElem_of_mem hm
        exact hall j _ (by omega) (List.getElem?_eq_getElem hj) e
      have hser : ser (nd v l h) acc = ser h (ser l acc) ++ [nd v l h] := by simp only [ser]; rw [if_neg hnin]
      refine Ld.o2 o1 s r0 rfl (FA.mk (Ld.oc o1 rfl (IA.of (hs.old ho1) h0 hrow fun b o hld => FA.mk (Ld.ei hld rfl ?_))))
      refine RunT.imp ?_ (ihl inl ho1 ha1 hFo hsub hfa)
      rintro H3 (q : AC) ⟨Fo3, ha3, k3, fr3⟩
      have ho3 := ho1.keep k3 hFo
      have hb1lt := o1.lt
      have hnb : ¬ Fo b1 := fun e => by have := ha.lt b1 e; omega
      have o13 := o1.keep k3 hnb
      have hFo3 : ∀ y, Fo3 y → H0.size ≤ y := fun y e => (fr3 y e).elim (hFo y) fun e => by have := k1.size; omega
      refine Ld.o2 o13 s r0 rfl (FA.mk (Ld.oc o13 rfl (IA.of (hs.old ho3) h0 hrow fun b o hld => FA.mk (Ld.ei hld rfl ?_))))
      have hsub3 := ser_sub hfin l acc inl hsub
      have hfa3 := ser_fin l acc hro.2.2.2.2.1 hfa
      refine RunT.imp ?_ (ihh inh ho3 ha3 hFo3 hsub3 hfa3)
      rintro H4 (q2 : AC) ⟨Fo4, ha4, k4, fr4⟩
      have hsub4 := ser_sub hfin h _ inh hsub3
      have hfa4 := ser_fin h _ hro.2.2.2.2.2 hfa3
      have hl4 : (ser h (ser l acc)).length ≤ 2000 := Nat.le_trans (hfa4.nodup.length_le_of_subset fun y hy => hsub4 y hy) hlen
      have hrl : (refRows st (ser h (ser l acc))).length = (ser h (ser l acc)).length := List.length_map ..
      refine NewS.own fun pb H5 hpb hs5 op k5 => ?_
      refine App.own (ha4.kp k5) (r := [AC.int .i64 (ref st (nd v l h))]) ⟨pb, _, rfl, op.all⟩ rfl (by rw [hrl]; omega) (by rw [hrl]; omega) fun s6 H6 sl6 k6 hs6 => ?_
      have hz1 := k1.size
      have hz3 := k3.size
      have hz4 := k4.size
      refine ⟨_, by rw [hser]; unfold refRows at sl6 ⊢; rw [List.map_append]; exact sl6, ?_, ?_⟩
      · have t1 : Keep Fo H H3 := Kp.andThen k1 k3
        have t2 : Keep Fo H H4 := Keep.trans t1 k4 fun y hy e => (fr3 y e).elim id fun e => by omega
        exact Keep.trans (Keep.trans' t2 k5) k6 fun y hy e => (fr4 y e).elim (fun e => (fr3 y e).elim id fun e => by omega) fun e => by omega
      · rintro y (e | e)
        · rcases fr4 y e with e | e
          · rcases fr3 y e with e | e
            · exact .inl e
            · exact .inr (by omega)
          · exact .inr (by omega)
        · exact .inr (by omega)

theorem DiagramFault_c {s : AC} {l : List NRow} {r : Int} {H : AHeap} (hs : SlR H s 3 (nodeRows l)) :
    Fn.fetterlockref6_DiagramFault s r H fun H' q => q = dFault l r ∧ Kp H H' := by
  refine fetterlockref6_DiagramFault.run ?_
  unfold fetterlockref6_DiagramFault.W
  refine New.own fun b1 H1 hb1 hs1 o1 k1 => FA.mk (Ld.oc o1 rfl (LenS.of (hs.kp k1) ?_))
  rw [nodeRows_len]
  refine CondB.dec (fun hgt => ⟨?_, k1⟩) fun hle => ?_
  · unfold dFault; rw [if_pos (by omega)]
  have hlen : l.length ≤ 2000 := by omega
  unfold fetterlockref6_DiagramFault.l14
  refine LoopT.rule (fun m s0 H2 => ∃ i : Nat, i ≤ l.length ∧ m = l.length - i ∧ s0 = (.ptr (some (b1, 0)), (i : Int), ()) ∧ Kp H H2 ∧ Own H2 b1 [s, .int .i64 r] ∧ scan 0 l = scan i (l.drop i)) l.length
    ⟨0, by omega, by omega, rfl, k1, o1, rfl⟩ ?_
  rintro m s0 H2 back ⟨i, hi, rfl, rfl, k2, o12, hsc⟩ hback
  simp only [fetterlockref6_DiagramFault.b14]
  refine FA.mk (Ld.oc o12 rfl (LenS.of (hs.kp k2) ?_))
  rw [nodeRows_len]
  refine CondB.dec (fun hlt => ?_) fun hge => ?_
  · have hi' : i < l.length := by omega
    obtain ⟨p, hp⟩ : ∃ b, l[i]? = some b := ⟨_, List.getElem?_eq_getElem hi'⟩
    rw [scan_drop hp] at hsc
    refine FA.mk (Ld.oc o12 rfl (IA.of (hs.kp k2) (by omega) (by rw [Int.toNat_natCast]; exact nodeRow_at hp) fun b o hld => Ld.a3 hld p.1 p.2.1 p.2.2 rfl rfl ?_))
    refine NewSto.own rfl fun nb H3 hnb hs3 on k3 => FA.mk (Ld.oi on rfl ?_)
    have kk := k2.trans k3
    unfold fetterlockref6_DiagramFault.p28
    refine CondB.dec (fun h0 => CondB.pos rfl ⟨?_, kk⟩) fun h0 => FA.mk (Ld.oi on rfl (CondB.dec (fun h1 => ⟨?_, kk⟩) fun h1 => ?_))
    · rw [if_pos (.inl h0)] at hsc; exact (dFault_scan hlen hsc (by omega)).symm
    · rw [if_pos (.inr (by omega))] at hsc; exact (dFault_scan hlen hsc (by omega)).symm
    rw [if_neg (by omega)] at hsc
    unfold fetterlockref6_DiagramFault.p35
    refine FA.mk (Ld.oi on rfl (CondB.dec (fun h2 => CondB.pos rfl ⟨?_, kk⟩) fun h2 => FA.mk (Ld.oi on rfl (CondB.dec (fun h3 => CondB.pos rfl ⟨?_, kk⟩) fun h3 => FA.mk (Ld.oi on rfl (CondB.dec (fun h4 => CondB.pos rfl ⟨?_, kk⟩) fun h4 => FA.mk (Ld.oi on rfl (CondB.dec (fun h5 => ⟨?_, kk⟩) fun h5 => ?_))))))))
    · rw [if_pos (by omega)] at hsc; exact (dFault_scan hlen hsc (by omega)).symm
    · rw [if_pos (by omega)] at hsc; exact (dFault_scan hlen hsc (by omega)).symm
    · rw [if_pos (by omega)] at hsc; exact (dFault_scan hlen hsc (by omega)).symm
    · rw [if_pos (by omega)] at hsc; exact (dFault_scan hlen hsc (by omega)).symm
    rw [if_neg (by omega)] at hsc
    refine hback (l.length - (i + 1)) _ _ (by omega) ⟨i + 1, by omega, rfl, ?_, kk, o12.kp k3, hsc⟩
    exact tc rfl (tc ((wrap64 (by omega) (by omega)).trans (by omega)) rfl)
  have hsc0 : scan 0 l = 0 := by
    rw [hsc, List.drop_eq_nil_iff.2 (by omega)]; rfl
  have hnum : ∀ j p, l[j]? = some p → NumOk j p := fun j p hp => by have := scan_ok.1 hsc0 j p hp; rwa [Nat.zero_add] at this
  unfold fetterlockref6_DiagramFault.l45
  refine LoopT.rule (fun m s0 H3 => ∃ i : Nat, i ≤ l.length ∧ m = l.length - i ∧ s0 = (.ptr (some (b1, 0)), (i : Int), ()) ∧ Kp H H3 ∧ Own H3 b1 [s, .int .i64 r] ∧ ∀ j p, j < i → l[j]? = some p → OrdOk l p ∧ OneOk l j p) l.length
    ⟨0, by omega, by omega, rfl, k2, o12, fun j p h => by omega⟩ ?_
  clear hback back
  rintro m s0 H3 back ⟨i, hi, rfl, rfl, k3, o13, hord⟩ hback
  simp only [fetterlockref6_DiagramFault.b45]
  refine FA.mk (Ld.oc o13 rfl (LenS.of (hs.kp k3) ?_))
  rw [nodeRows_len]
  refine CondB.dec (fun hlt => ?_) fun hge => ?_
  · have hi' : i < l.length := by omega
    obtain ⟨p, hp⟩ : ∃ b, l[i]? = some b := ⟨_, List.getElem?_eq_getElem hi'⟩
    have hn := hnum i p hp
    unfold NumOk at hn
    obtain ⟨n1, n2, n3, n4, n5, n6⟩ := hn
    refine FA.mk (Ld.oc o13 rfl (IA.of (hs.kp k3) (by omega) (by rw [Int.toNat_natCast]; exact nodeRow_at hp) fun b o hld => Ld.a3 hld p.1 p.2.1 p.2.2 rfl rfl ?_))
    refine NewSto.own rfl fun nb H4 hnb hs4 on k4 => FA.mk (Ld.oi on rfl (FA.mk (Ld.oi on rfl ?_)))
    have kk := k3.trans k4
    have o14 := o13.kp k4
    have badR : ¬ CanonD l r → fetterlockref6_DiagramFault.p59 (fun H' q => q = dFault l r ∧ Kp H H') back (.ptr (some (b1, 0))) (i : Int) (.ptr (some (nb, 0))) true H4 := by
      intro h
      unfold fetterlockref6_DiagramFault.p59
      exact CondB.pos rfl ⟨(dFault_two hlen hsc0 h).symm, kk⟩
    have goodR : OrdOk l p → p.2.1 ≠ p.2.2 → fetterlockref6_DiagramFault.p59 (fun H' q => q = dFault l r ∧ Kp H H') back (.ptr (some (b1, 0))) (i : Int) (.ptr (some (nb, 0))) false H4 := by
      intro h1 h2
      unfold fetterlockref6_DiagramFault.p59
      refine CondB.neg rfl ?_
      unfold fetterlockref6_DiagramFault.l67
      refine LoopT.rule (fun m s0 H6 => ∃ k : Nat, k ≤ i ∧ m = i - k ∧ s0 = (.ptr (some (b1, 0)), (i : Int), .ptr (some (nb, 0)), (k : Int), ()) ∧ H6 = H4 ∧ ∀ j q, j < k → l[j]? = some q → q ≠ p) i ⟨0, by omega, rfl, rfl, rfl, fun j q h => by omega⟩ ?_
      rintro m s0 H6 back2 ⟨k, hk, rfl, rfl, rfl, hdup⟩ hback2
      simp only [fetterlockref6_DiagramFault.b67]
      refine CondB.dec (fun hlt2 => ?_) fun hge2 => ?_
      · obtain ⟨q, hq⟩ : ∃ b, l[k]? = some b := ⟨_, List.getElem?_eq_getElem (by omega)⟩
        refine FA.mk (Ld.oc o14 rfl (IA.of (hs.kp kk) (by omega) (by rw [Int.toNat_natCast]; exact nodeRow_at hq) fun b o hld => Ld.a3 hld q.1 q.2.1 q.2.2 rfl rfl (Ld.o3 on p.1 p.2.1 p.2.2 rfl ?_)))
        refine CondB.mk (fun hc => ⟨?_, kk⟩) fun hc => ?_
        · have e : q = p := by
            simp only [decide_eq_true_eq, List.cons.injEq, and_true] at hc
            exact Prod.ext hc.1 (Prod.ext hc.2.1 hc.2.2)
          exact (dFault_two hlen hsc0 fun hcan => (hcan.strict i p hp).2 k q (by omega) hq e).symm
        · refine hback2 (i - (k + 1)) _ _ (by omega) ⟨k + 1, by omega, rfl, ?_, rfl, fun j z hj hz => ?_⟩
          · exact tc rfl (tc rfl (tc rfl (tc ((wrap64 (by omega) (by omega)).trans (by omega)) rfl)))
          · by_cases hjk : j = k
            · subst hjk
              rw [hq] at hz
              cases hz
              rintro rfl
              simp at hc
            · exact hdup j z (by omega) hz
      · refine hback (l.length - (i + 1)) _ _ (by omega) ⟨i + 1, by omega, rfl, ?_, kk, o14, fun j q hj hq => ?_⟩
        · exact tc rfl (tc ((wrap64 (by omega) (by omega)).trans (by omega)) rfl)
        · by_cases hji : j = i
          · subst hji
            rw [hp] at hq
            cases hq
            exact ⟨h1, h2, fun j' q' hj' hq' => hdup j' q' (by omega) hq'⟩
          · exact hord j q (by omega) hq
    refine CondB.eq (fun he => badR fun hcan => (hcan.strict i p hp).1 he) fun hne => ?_
    -- a part's variable
    have part : ∀ (c : Int) (k : AHeap → Bool → Prop), 0 ≤ c → c < l.length → (∀ q, l[c.toNat]? = some q → k H4 (decide (q.1 ≤ p.1))) →
        FA 0 (.ptr (some (b1, 0))) fun q_30 => Ld [.ac] H4 q_30 fun (v_31 : AC) => IA 3 v_31 c fun q_34 => FA 0 q_34 fun q_35 => Ld [.int .i64] H4 q_35 fun (v_36 : Int) =>
          FA 0 (.ptr (some (nb, 0))) fun q_37 => Ld [.int .i64] H4 q_37 fun (v_38 : Int) => k H4 (decide (v_36 ≤ v_38)) := by
      intro c k h0 h1 hk
      obtain ⟨q, hq⟩ : ∃ b, l[c.toNat]? = some b := ⟨_, List.getElem?_eq_getElem (by omega)⟩
      exact FA.mk (Ld.oc o14 rfl (IA.of (hs.kp kk) h0 (nodeRow_at hq) fun b o hld => FA.mk (Ld.ei hld rfl (FA.mk (Ld.oi on rfl (hk q hq))))))
    have badO : ∀ q, (0 ≤ p.2.1 ∧ l[p.2.1.toNat]? = some q ∨ 0 ≤ p.2.2 ∧ l[p.2.2.toNat]? = some q) → q.1 ≤ p.1 → ¬ CanonD l r := by
      intro q hq hle hcan
      have := (hcan.of.1 i p hp).2
      rcases hq with ⟨h0, hq⟩ | ⟨h0, hq⟩
      · have := this.1 q h0 hq; omega
      · have := this.2 q h0 hq; omega
    have second : (∀ q, 0 ≤ p.2.1 → l[p.2.1.toNat]? = some q → p.1 < q.1) → 0 ≤ p.2.2 → ∀ q, l[p.2.2.toNat]? = some q → fetterlockref6_DiagramFault.p59 (fun H' q => q = dFault l r ∧ Kp H H') back (.ptr (some (b1, 0))) (i : Int) (.ptr (some (nb, 0))) (decide (q.1 ≤ p.1)) H4 := by
      intro h1 h0 q hq
      by_cases hle : q.1 ≤ p.1
      · rw [decide_eq_true hle]; exact badR (badO q (.inr ⟨h0, hq⟩) hle)
      · rw [decide_eq_false hle]
        refine goodR ⟨h1, fun q' _ hq' => ?_⟩ hne
        rw [hq] at hq'; cases hq'; omega
    refine FA.mk (Ld.oi on rfl (CondB.dec (fun h1 => ?_) fun h1 => ?_))
    · obtain ⟨q1, hq1⟩ : ∃ b, l[p.2.1.toNat]? = some b := ⟨_, List.getElem?_eq_getElem (by omega)⟩
      refine FA.mk (Ld.oc o14 rfl (FA.mk (Ld.oi on rfl (IA.of (hs.kp kk) h1 (nodeRow_at hq1) fun b o hld => FA.mk (Ld.ei hld rfl (FA.mk (Ld.oi on rfl ?_)))))))
      refine CondB.dec (fun h2 => badR (badO q1 (.inl ⟨h1, hq1⟩) h2)) fun h2 => ?_
      have hlo : ∀ q, 0 ≤ p.2.1 → l[p.2.1.toNat]? = some q → p.1 < q.1 := fun q _ hq => by rw [hq1] at hq; cases hq; omega
      refine FA.mk (Ld.oi on rfl (CondB.dec (fun h3 => ?_) fun h3 => goodR ⟨hlo, fun q h0 => by omega⟩ hne))
      obtain ⟨q2, hq2⟩ : ∃ b, l[p.2.2.toNat]? = some b := ⟨_, List.getElem?_eq_getElem (by omega)⟩
      exact FA.mk (Ld.oc o14 rfl (FA.mk (Ld.oi on rfl (IA.of (hs.kp kk) h3 (nodeRow_at hq2) fun b o hld => FA.mk (Ld.ei hld rfl (FA.mk (Ld.oi on rfl (second hlo h3 q2 hq2))))))))
    · have hlo : ∀ q, 0 ≤ p.2.1 → l[p.2.1.toNat]? = some q → p.1 < q.1 := fun q h0 => by omega
      refine FA.mk (Ld.oi on rfl (CondB.dec (fun h3 => ?_) fun h3 => goodR ⟨hlo, fun q h0 => by omega⟩ hne))
      obtain ⟨q2, hq2⟩ : ∃ b, l[p.2.2.toNat]? = some b := ⟨_, List.getElem?_eq_getElem (by omega)⟩
      exact FA.mk (Ld.oc o14 rfl (FA.mk (Ld.oi on rfl (IA.of (hs.kp kk) h3 (nodeRow_at hq2) fun b o hld => FA.mk (Ld.ei hld rfl (FA.mk (Ld.oi on rfl (second hlo h3 q2 hq2))))))))
  have hall : ∀ j p, l[j]? = some p → OrdOk l p ∧ OneOk l j p := fun j p hp => hord j p (by have := (List.getElem?_eq_some_iff.1 hp).1; omega) hp
  have hok : RowsOk l := fun j p hp => ⟨hnum j p hp, (hall j p hp).1⟩
  obtain ⟨hseq, hrows⟩ := strict_seq hok fun j p hp => (hall j p hp).2
  refine FA.mk (Ld.oc o13 rfl (LenS.of (hs.kp k3) ?_))
  rw [nodeRows_len]
  unfold fetterlockref6_DiagramFault.p92
  refine CondB.eq (fun h0 => ?_) fun h0 => ?_
  · have hl0 : l = [] := List.eq_nil_of_length_eq_zero (by omega)
    have leafC : ∀ b : Bool, r = ref [] (leaf b) → CanonD l r := fun b e => ⟨leaf b, trivial, by rw [hl0]; rfl, by rw [e]; cases b <;> rfl⟩
    refine FA.mk (Ld.oi o13 rfl (CondB.ne (fun h1 => FA.mk (Ld.oi o13 rfl (CondB.ne (fun h2 => ⟨?_, k3⟩) fun h2 => ⟨?_, k3⟩))) fun h1 => CondB.neg rfl ⟨?_, k3⟩))
    · exact (dFault_two hlen hsc0 fun hcan => by
        have := hcan.root
        rw [if_pos hl0] at this
        omega).symm
    · exact (dFault_zero hlen (leafC true h2)).symm
    · exact (dFault_zero hlen (leafC false h1)).symm
  · have hl0 : l ≠ [] := fun e => h0 (by rw [e]; rfl)
    have hpos : 0 < l.length := List.length_pos_iff.2 hl0
    refine FA.mk (Ld.oi o13 rfl (FA.mk (Ld.oc o13 rfl (LenS.of (hs.kp k3) ?_))))
    rw [nodeRows_len, show IntKind.wrap .i64 ((l.length : Int) - 1) = (l.length : Int) - 1 from wrap64 (by omega) (by omega)]
    refine CondB.ne (fun h1 => ⟨?_, k3⟩) fun h1 => ?_
    · exact (dFault_two hlen hsc0 fun hcan => by
        have := hcan.root
        rw [if_neg hl0] at this
        exact h1 this).symm
    obtain ⟨st, hst⟩ : ∃ st, st = bld l := ⟨_, rfl⟩
    rw [← hst] at hseq hrows
    have hstl : st.length = l.length := by rw [hst, bld_len]
    obtain ⟨x, hx⟩ : ∃ x, x = st[l.length - 1]'(by omega) := ⟨_, rfl⟩
    have hget : st[l.length - 1]? = some x := by rw [hx]; exact List.getElem?_eq_getElem (by omega)
    have hxin : In st x := .inr (List.mem_of_getElem? hget)
    have hxref : ref st x = r := by rw [ref_idx hseq.1 hget]; omega
    have hsl : SlR H3 s 3 (nodeRows (st.map (row st))) := by rw [hrows]; exact hs.kp k3
    have hxro := hseq.1.ro hxin
    refine Ld.o2 o13 s r rfl (FA.mk (Ld.oi o13 rfl ?_))
    rw [← hxref]
    refine RunT.imp ?_ (numbered_c hsl hseq.1 (by omega) x hxin (Old.refl _) (OwnS.nil _ _) (fun y h => h.elim) (fun y h => by cases h) Fin.nil)
    rintro H4 (q : AC) ⟨Fo, ha, k4, fr⟩
    have k4' : Kp H3 H4 := k4.mono fun _ _ h => h
    have kk := k3.trans k4'
    have hrl : (refRows st (ser x [])).length = (ser x []).length := List.length_map ..
    have hsub := ser_sub hseq.1 x [] hxin fun y h => by cases h
    refine LenS.of ha.slr ?_
    rw [hrl]
    refine FA.mk (Ld.oc (o13.kp k4') rfl (LenS.of (hs.kp kk) ?_))
    rw [nodeRows_len, ← hxref] at *
    have canonX : CanonD l (ref st x) → ser x [] = st := by
      rintro ⟨y, hy, e1, e2⟩
      have f := ser_seq y [] hy Seq.nil
      have hst' : st = ser y [] := by rw [hst, e1, bld_rows f]
      have hxy : x = y := ref_inj hxin (by rw [hst']; exact ser_in y []) (by rw [e2, hst'])
      rw [hst', hxy]
    refine CondB.ne (fun h2 => ⟨?_, kk⟩) fun h2 => ?_
    · exact (dFault_two hlen hsc0 fun hcan => by rw [canonX hcan, hstl] at h2; exact h2 rfl).symm
    have hlx : (ser x []).length = st.length := by omega
    unfold fetterlockref6_DiagramFault.l123
    refine LoopT.rule (fun m s0 H6 => ∃ k : Nat, k ≤ l.length ∧ m = l.length - k ∧ s0 = (q, (k : Int), ()) ∧ H6 = H4 ∧ ∀ (j : Nat) (y : DT), j < k → (ser x [])[j]? = some y → ref st y = j) l.length ⟨0, by omega, rfl, rfl, rfl, fun j y h => by omega⟩ ?_
    rintro m s0 H6 back2 ⟨k, hk, rfl, rfl, rfl, hidx⟩ hback2
    simp only [fetterlockref6_DiagramFault.b123]
    refine LenS.of ha.slr ?_
    rw [hrl]
    refine CondB.dec (fun hlt2 => ?_) fun hge2 => ?_
    · obtain ⟨y, hy⟩ : ∃ y, (ser x [])[k]? = some y := ⟨_, List.getElem?_eq_getElem (by omega)⟩
      refine IA.of ha.slr (by omega) (by rw [Int.toNat_natCast]; exact refRow_at hy) fun b o hld => Ld.a1 hld (ref st y) rfl rfl ?_
      refine CondB.ne (fun h3 => ⟨?_, kk⟩) fun h3 => ?_
      · exact (dFault_two hlen hsc0 fun hcan => by
          rw [canonX hcan] at hy
          exact h3 (ref_idx hseq.1 hy)).symm
      · refine hback2 (l.length - (k + 1)) _ _ (by omega) ⟨k + 1, by omega, rfl, ?_, rfl, fun j z hj hz => ?_⟩
        · exact tc rfl (tc ((wrap64 (by omega) (by omega)).trans (by omega)) rfl)
        · by_cases hjk : j = k
          · subst hjk
            rw [hy] at hz
            cases hz
            exact h3
          · exact hidx j z (by omega) hz
    · have hser := ser_all hlx (fun j y hy => hidx j y (by have := (List.getElem?_eq_some_iff.1 hy).1; omega) hy) hsub
      refine ⟨(dFault_zero hlen ⟨x, hxro, ?_, ?_⟩).symm, kk⟩
      · rw [hser, hrows]
      · rw [hser]
end Go.Proofs.Ytanaaabejeeakaa
end
section
/- The reference's operations; the law that Apply and Not are these. -/
namespace Go.Proofs.Ytanaaabejeeakaa
open Go.AI Go.AI.DT

theorem tab_cell {g : (Nat → Bool) → Bool} {i : Nat} (hi : i < 65536) : ((tabOf g).map AC.bool)[i]? = some (.bool (g (rho i))) := by
  rw [List.getElem?_map, tabOf_get g i hi]; rfl
theorem eval_congr16 {ρ ρ' : Nat → Bool} (h : ∀ v, v < 16 → ρ v = ρ' v) : ∀ x : DT, x.RO → x.eval ρ = x.eval ρ'
  | leaf _, _ => rfl
  | nd v l r, hr => by
    simp only [eval]
    rw [h v hr.1, eval_congr16 h l hr.2.2.2.2.1, eval_congr16 h r hr.2.2.2.2.2]

/-- A diagram that is taken is that of a tree. -/
theorem dTree {l : List NRow} {r : Int} (h : dFault l r = 0) : ∃ x : DT, x.RO ∧ (ser x []).length ≤ 2000 ∧ l = rowsOf x ∧ r = ref (ser x []) x ∧ ∀ ρ, dVal l r ρ = x.eval ρ := by
  obtain ⟨h1, h2⟩ := dFault_len h
  have hx := h2.of
  refine ⟨atR (bld l) r, hx.2.2.2.1, ?_, hx.2.2.2.2.1, hx.2.2.2.2.2, fun ρ => rfl⟩
  have := congrArg List.length hx.2.2.2.2.1
  rw [List.length_map] at this
  omega

end Go.Proofs.Ytanaaabejeeakaa
end
section
/- The reference's Apply; the law that Apply and Not are what is specified. -/
namespace Go.Proofs.Ytanaaabejeeakaa
open Go.AI Go.AI.DT

end Go.Proofs.Ytanaaabejeeakaa
end
section
/- Lists of lists of whole numbers. -/
namespace Go.Proofs.Ytanaaabejeeakaa
open Go.AI Go.AI.DT

def intRows (l : List Int) : List (List AC) := l.map fun n => [AC.int .i64 n]
theorem intRow_at {l : List Int} {i : Nat} {n : Int} (h : l[i]? = some n) : (intRows l)[i]? = some [AC.int .i64 n] := by
  unfold intRows; rw [List.getElem?_map, h]; rfl
theorem intRows_len (l : List Int) : (intRows l).length = l.length := by unfold intRows; rw [List.length_map]

/-- A list of lists, asx it lies in memory. -/
structure LL (H : AHeap) (s : AC) (Fo Gi : Nat → Prop) (L : List (List Int)) : Prop where
  ex : ∃ ss : List AC, OwnS H s 1 Fo (ss.map fun c => [c]) ∧ ss.length = L.length ∧ ∀ (i : Nat) (c : AC) (l : List Int), ss[i]? = some c → L[i]? = some l → SlR H c 1 (intRows l) ∧ ∀ b o z m cap, c = .sl (some (b, o)) z m cap → Gi b
  sep : ∀ y, Gi y → y < H.size ∧ ¬ Fo y
theorem LL.keep {S Fo Gi : Nat → Prop} {H H' : AHeap} {s : AC} {L : List (List Int)} (h : LL H s Fo Gi L) (k : Keep S H H') (hd : ∀ y, S y → ¬ Fo y ∧ ¬ Gi y) : LL H' s Fo Gi L := by
  obtain ⟨ss, h1, h2, h3⟩ := h.ex
  refine ⟨⟨ss, h1.keep k fun y hy => (hd y hy).1, h2, fun i c l hc hl => ?_⟩, fun y hy => ⟨Nat.lt_of_lt_of_le (h.sep y hy).1 k.size, (h.sep y hy).2⟩⟩
  obtain ⟨g1, g2⟩ := h3 i c l hc hl
  exact ⟨g1.keep k fun b o m cap z e hS => (hd b hS).2 (g2 b o _ _ _ e), g2⟩
theorem LL.kp {Fo Gi : Nat → Prop} {H H' : AHeap} {s : AC} {L : List (List Int)} (h : LL H s Fo Gi L) (k : Kp H H') : LL H' s Fo Gi L := h.keep k fun _ h => h.elim
theorem LL.nil (H : AHeap) : LL H (.sl none 0 0 (some 0)) (fun _ => False) (fun _ => False) [] := ⟨⟨[], OwnS.nil _ _, rfl, fun i c l h => by simp at h⟩, fun _ h => h.elim⟩
theorem LL.lt {Fo Gi : Nat → Prop} {H : AHeap} {s : AC} {L : List (List Int)} (h : LL H s Fo Gi L) : ∀ y, Fo y → y < H.size := by
  obtain ⟨ss, h1, _⟩ := h.ex
  exact h1.lt
theorem LL.len {Fo Gi : Nat → Prop} {H : AHeap} {s : AC} {L : List (List Int)} (h : LL H s Fo Gi L) {k : Int → Prop} (q : k (L.length : Int)) : LenS s k := by
  obtain ⟨ss, h1, h2, _⟩ := h.ex
  refine LenS.of h1.slr ?_
  rw [List.length_map, h2]
  exact q
/-- One list more. -/
theorem LL.app {Fo Gi G : Nat → Prop} {H : AHeap} {s x c : AC} {L : List (List Int)} {l : List Int} {e : Nat} {K : AC → AHeap → Prop} (h : LL H s Fo Gi L) (hx : ∃ p cap, x = .sl (some (p, 0)) 1 1 cap ∧ H.load (p, 0) 1 = some [c])
    (hc : SlR H c 1 (intRows l)) (hG : ∀ b o z m cap, c = .sl (some (b, o)) z m cap → G b) (hGl : ∀ y, G y → y < H.size ∧ ¬ Fo y) (hl : L.length ≤ 65536)
    (q : ∀ s' H', LL H' s' (fun y => Fo y ∨ y = H.size) (fun y => Gi y ∨ G y) (L ++ [l]) → Keep Fo H H' → H'.size = H.size + 1 → K s' H') : App e 1 24 s x H K := by
  obtain ⟨ss, h1, h2, h3⟩ := h.ex
  refine App.own h1 (r := [c]) hx rfl (by rw [List.length_map]; omega) (by rw [List.length_map]; omega) fun s' H' sl' k' hs' => q s' H' ⟨⟨ss ++ [c], ?_, by simp [h2], fun i d m hd hm => ?_⟩, fun y hy => ?_⟩ k' hs'
  · rw [List.map_append]
    exact sl'
  · by_cases hi : i < L.length
    · rw [List.getElem?_append_left (by omega)] at hd hm
      obtain ⟨g1, g2⟩ := h3 i d m hd hm
      exact ⟨g1.keep k' fun b o m cap z e hF => (h.sep b (g2 b o _ _ _ e)).2 hF, fun b o z m cap e => .inl (g2 b o z m cap e)⟩
    · have hi' : i = L.length := by
        have := (List.getElem?_eq_some_iff.1 hm).1
        simp at this; omega
      subst hi'
      rw [List.getElem?_append_right (by omega)] at hd hm
      simp [h2] at hd hm
      subst hd hm
      exact ⟨hc.keep k' fun b o m cap z e hF => (hGl b (hG b o _ _ _ e)).2 hF, fun b o z m cap e => .inr (hG b o z m cap e)⟩
  · have hy' : y < H.size ∧ ¬ Fo y := hy.elim (h.sep y) (hGl y)
    exact ⟨by omega, fun e => e.elim hy'.2 fun e => by omega⟩

theorem sameInts_c {s s' : AC} {l l' : List Int} {H : AHeap} (hs : SlR H s 1 (intRows l)) (hs' : SlR H s' 1 (intRows l')) (hlen : l.length < 4611686018427387904) :
    Fn.fetterlocklaw6_sameInts s s' H fun H' r => H' = H ∧ r = decide (l = l') := by
  refine fetterlocklaw6_sameInts.run ?_
  unfold fetterlocklaw6_sameInts.W
  refine LenS.of hs (LenS.of hs' ?_)
  rw [intRows_len, intRows_len]
  refine CondB.ne (fun hne => ⟨rfl, ?_⟩) fun he => ?_
  · symm; rw [decide_eq_false_iff_not]; rintro rfl; exact hne rfl
  have hl : l.length = l'.length := by omega
  unfold fetterlocklaw6_sameInts.l14
  refine LoopT.rule (fun m s0 H2 => ∃ i : Nat, i ≤ l.length ∧ m = l.length - i ∧ s0 = (s, s', (i : Int), ()) ∧ H2 = H ∧ ∀ j, j < i → l[j]? = l'[j]?) l.length ⟨0, by omega, by omega, rfl, rfl, fun j h => by omega⟩ ?_
  rintro m s0 H2 back ⟨i, hi, rfl, rfl, rfl, hall⟩ hback
  simp only [fetterlocklaw6_sameInts.b14]
  refine LenS.of hs ?_
  rw [intRows_len]
  refine CondB.dec (fun hlt => ?_) fun hge => ?_
  · have hi' : i < l.length := by omega
    obtain ⟨b, hb⟩ : ∃ b, l[i]? = some b := ⟨_, List.getElem?_eq_getElem hi'⟩
    obtain ⟨b', hb'⟩ : ∃ b, l'[i]? = some b := ⟨_, List.getElem?_eq_getElem (by omega)⟩
    refine IA.of hs (by omega) (by rw [Int.toNat_natCast]; exact intRow_at hb) fun b1 o1 hld => Ld.a1 hld b rfl rfl ?_
    refine IA.of hs' (by omega) (by rw [Int.toNat_natCast]; exact intRow_at hb') fun b1 o1 hld => Ld.a1 hld b' rfl rfl ?_
    refine CondB.ne (fun hc => ⟨by trivial, ?_⟩) fun hc => ?_
    · symm
      rw [decide_eq_false_iff_not]
      rintro rfl
      rw [hb] at hb'
      cases hb'
      exact hc rfl
    · refine hback (l.length - (i + 1)) _ _ (by omega) ⟨i + 1, by omega, rfl, ?_, rfl, fun j hj => ?_⟩
      · exact tc rfl (tc rfl (tc ((wrap64 (by omega) (by omega)).trans (by omega)) rfl))
      · by_cases hji : j = i
        · subst hji
          rw [hb, hb', hc]
        · exact hall j (by omega)
  · refine ⟨by trivial, ?_⟩
    symm
    rw [decide_eq_true_iff]
    apply List.ext_getElem?
    intro j
    by_cases hj : j < i
    · exact hall j hj
    · rw [List.getElem?_eq_none (by omega), List.getElem?_eq_none (by omega)]

theorem sameLists_c {s s' : AC} {L : List (List Int)} {Fo Fo' Gi Gi' : Nat → Prop} {H : AHeap} (hs : LL H s Fo Gi L) (hs' : LL H s' Fo' Gi' L) (hlen : L.length ≤ 65536) (hin : ∀ l ∈ L, l.length ≤ 64) :
    Fn.fetterlocklaw6_sameLists s s' H fun H' r => H' = H ∧ r = true := by
  obtain ⟨ss, h1, h2, h3⟩ := hs.ex
  obtain ⟨tt, g1, g2, g3⟩ := hs'.ex
  refine fetterlocklaw6_sameLists.run ?_
  unfold fetterlocklaw6_sameLists.W
  refine hs.len (hs'.len (CondB.neg (by simp) ?_))
  unfold fetterlocklaw6_sameLists.l14
  refine LoopT.rule (fun m s0 H2 => ∃ i : Nat, i ≤ L.length ∧ m = L.length - i ∧ s0 = (s, s', (i : Int), ()) ∧ H2 = H) L.length ⟨0, by omega, by omega, rfl, rfl⟩ ?_
  rintro m s0 H2 back ⟨i, hi, rfl, rfl, rfl⟩ hback
  simp only [fetterlocklaw6_sameLists.b14]
  refine hs.len (CondB.dec (fun hlt => ?_) fun hge => ⟨by trivial, by trivial⟩)
  have hi' : i < L.length := by omega
  obtain ⟨l, hl⟩ : ∃ b, L[i]? = some b := ⟨_, List.getElem?_eq_getElem hi'⟩
  obtain ⟨c, hc⟩ : ∃ b, ss[i]? = some b := ⟨_, List.getElem?_eq_getElem (by omega)⟩
  obtain ⟨d, hd⟩ : ∃ b, tt[i]? = some b := ⟨_, List.getElem?_eq_getElem (by omega)⟩
  refine IA.of h1.slr (r := [c]) (by omega) (by rw [Int.toNat_natCast, List.getElem?_map, hc]; rfl) fun b1 o1 hld => Ld.a1 hld c rfl rfl ?_
  refine IA.of g1.slr (r := [d]) (by omega) (by rw [Int.toNat_natCast, List.getElem?_map, hd]; rfl) fun b1 o1 hld => Ld.a1 hld d rfl rfl ?_
  refine RunT.imp ?_ (sameInts_c (h3 i c l hc hl).1 (g3 i d l hd hl).1 (by have := hin l (List.mem_of_getElem? hl); omega))
  rintro H3 q ⟨he, rfl⟩
  obtain rfl : H2 = H3 := he.symm
  refine CondB.neg (by simp) (hback (L.length - (i + 1)) _ _ (by omega) ⟨i + 1, by omega, rfl, ?_, rfl⟩)
  exact tc rfl (tc rfl (tc ((wrap64 (by omega) (by omega)).trans (by omega)) rfl))
end Go.Proofs.Ytanaaabejeeakaa
end
section
/- The assignments for which a tree is true, in order. -/
namespace Go.AI
open DT

def asg (n i : Nat) : Nat → Bool := fun w => decide (w < n) && i.testBit (n - 1 - w)
def bitsL (n i : Nat) : List Int := (List.range n).map fun w => if i.testBit (n - 1 - w) then 1 else 0
def mR (n : Nat) (g : (Nat → Bool) → Bool) (a k : Nat) : List (List Int) := ((List.range' a k).filter fun i => g (asg n i)).map (bitsL n)

theorem mR_congr {n : Nat} {g g' : (Nat → Bool) → Bool} {a k : Nat} (h : ∀ i, a ≤ i → i < a + k → g (asg n i) = g' (asg n i)) : mR n g a k = mR n g' a k := by
  unfold mR
  congr 1
  apply List.filter_congr
  intro i hi
  rw [List.mem_range'_1] at hi
  rw [h i hi.1 hi.2]
theorem mR_append (n : Nat) (g : (Nat → Bool) → Bool) (a k m : Nat) : mR n g a (k + m) = mR n g a k ++ mR n g (a + k) m := by
  unfold mR
  rw [← List.map_append, ← List.filter_append]
  congr 2
  have := List.range'_append (s := a) (m := k) (n := m) (step := 1)
  rw [Nat.one_mul] at this
  exact this.symm
theorem bit_of {p K j : Nat} (hK : K = 2 ^ j) {i : Nat} (h1 : p * K ≤ i) (h2 : i < p * K + K) : i.testBit j = decide (p % 2 = 1) := by
  have hd : i / 2 ^ j = p := by
    rw [← hK]
    have hpos : 0 < K := by rw [hK]; exact Nat.two_pow_pos j
    apply Nat.div_eq_of_lt_le
    · exact h1
    · rw [Nat.add_mul, Nat.one_mul]; exact h2
  rw [Nat.testBit_eq_decide_div_mod_eq, hd]
theorem mR_split {n v p : Nat} {x : DT} (hv : v < n) (hn : n ≤ 16) (hx : x.RO) (ht : v ≤ x.top) :
    mR n x.eval (p * 2 ^ (n - v)) (2 ^ (n - v)) = mR n (x.lo v).eval ((2 * p) * 2 ^ (n - (v + 1))) (2 ^ (n - (v + 1))) ++ mR n (x.hi v).eval ((2 * p + 1) * 2 ^ (n - (v + 1))) (2 ^ (n - (v + 1))) := by
  obtain ⟨K, hK⟩ : ∃ K, K = 2 ^ (n - (v + 1)) := ⟨_, rfl⟩
  have e : 2 ^ (n - v) = K + K := by
    rw [show n - v = (n - (v + 1)) + 1 from by omega, Nat.pow_succ, ← hK]; omega
  rw [e, ← hK, mR_append]
  have e1 : p * (K + K) = (2 * p) * K := by rw [Nat.mul_add, Nat.mul_assoc, Nat.two_mul]
  have e2 : p * (K + K) + K = (2 * p + 1) * K := by rw [e1, Nat.add_mul, Nat.one_mul]
  rw [e2, e1]
  have hj : n - 1 - v = n - (v + 1) := by omega
  congr 1
  · refine mR_congr fun i h1 h2 => ?_
    have hb := bit_of (p := 2 * p) (j := n - (v + 1)) hK h1 h2
    refine ((lo_spec hx ht (by omega)).2.2 _ ?_).symm
    unfold asg
    rw [hj, hb]
    simp
  · refine mR_congr fun i h1 h2 => ?_
    have hb := bit_of (p := 2 * p + 1) (j := n - (v + 1)) hK h1 h2
    refine ((hi_spec hx ht (by omega)).2.2 _ ?_).symm
    unfold asg
    rw [hj, hb]
    simp [hv]
theorem varsLt_lo {n : Nat} {x : DT} (v : Nat) (h : VarsLt n x) : VarsLt n (x.lo v) ∧ VarsLt n (x.hi v) := by
  cases x with
  | leaf b => exact ⟨h, h⟩
  | nd w l r =>
    simp only [lo, hi]
    split
    · exact ⟨h.2.1, h.2.2⟩
    · exact ⟨h, h⟩
theorem cnt_split {n v : Nat} {x : DT} (hv : v < n) (ht : v ≤ x.top) : cnt n v x = cnt n (v + 1) (x.lo v) + cnt n (v + 1) (x.hi v) := by
  have e : n - v = (n - (v + 1)) + 1 := by omega
  cases x with
  | leaf b =>
    cases b with
    | false => rfl
    | true => simp only [lo, hi, cnt]; rw [e, Nat.pow_succ]; omega
  | nd w l r =>
    simp only [top] at ht
    simp only [lo, hi]
    split
    · next h => subst h; simp only [cnt, Nat.sub_self, Nat.pow_zero, Nat.mul_one]
    · next h =>
      simp only [cnt]
      rw [show w - v = (w - (v + 1)) + 1 from by omega, Nat.pow_succ, ← Nat.mul_assoc]
      omega
theorem mR_base {n p : Nat} {x : DT} (hvl : VarsLt n x) (ht : n ≤ x.top) : mR n x.eval (p * 2 ^ (n - n)) (2 ^ (n - n)) = if x = leaf true then [bitsL n p] else [] := by
  rw [Nat.sub_self, Nat.pow_zero, Nat.mul_one]
  cases x with
  | leaf b => cases b <;> simp [mR, eval]
  | nd w l r => have := hvl.1; simp only [top] at ht; omega
theorem cnt_mR {n : Nat} (hn : n ≤ 16) : ∀ (k v p : Nat) (x : DT), n - v = k → v ≤ n → x.RO → VarsLt n x → v ≤ x.top → (mR n x.eval (p * 2 ^ (n - v)) (2 ^ (n - v))).length = cnt n v x := by
  intro k
  induction k with
  | zero =>
    intro v p x hk hv hx hvl ht
    have : v = n := by omega
    subst this
    rw [mR_base hvl ht]
    cases x with
    | leaf b => cases b <;> simp [cnt]
    | nd w l r => have := hvl.1; simp only [top] at ht; omega
  | succ k ih =>
    intro v p x hk hv hx hvl ht
    have h1 := lo_spec hx ht (by omega)
    have h2 := hi_spec hx ht (by omega)
    have h3 := varsLt_lo v hvl
    rw [mR_split (by omega) hn hx ht, List.length_append, ih (v + 1) (2 * p) (x.lo v) (by omega) (by omega) h1.1 h3.1 (by have := h1.2.1; omega), ih (v + 1) (2 * p + 1) (x.hi v) (by omega) (by omega) h2.1 h3.2 (by have := h2.2.1; omega), cnt_split (by omega) ht]

def neg : DT → DT
  | leaf b => leaf (!b)
  | nd v l h => nd v (neg l) (neg h)
end Go.AI
end
section
/- The reference's models. -/
namespace Go.Proofs.Ytanaaabejeeakaa
open Go.AI Go.AI.DT

theorem CountFault_c {s : AC} {l : List NRow} {r n : Int} {H : AHeap} (hs : SlR H s 3 (nodeRows l)) :
    Fn.fetterlockref6_CountFault s r n H fun H' q => q = vFault l r n ∧ Kp H H' := by
  refine fetterlockref6_CountFault.run ?_
  unfold fetterlockref6_CountFault.W
  refine New.own fun b1 H1 hb1 hs1 o1 k1 => Ld.o2 o1 s r rfl (RunT.imp ?_ (DiagramFault_c (hs.kp k1)))
  rintro H4 (q : Int) ⟨rfl, k4⟩
  have kk4 := k1.trans k4
  refine CondB.ne (fun hne => ⟨?_, kk4⟩) fun h0 => ?_
  · unfold vFault; rw [if_pos hne]
  have hv : vFault l r n = if n < 0 ∨ 16 < n ∨ ∃ p ∈ l, n ≤ p.1 then 1 else 0 := by unfold vFault; rw [if_neg (by omega)]
  have hlen := (dFault_len h0).1
  rw [hv]
  unfold fetterlockref6_CountFault.p15
  refine CondB.dec (fun h1 => CondB.pos rfl ⟨?_, kk4⟩) fun h1 => CondB.dec (fun h2 => ⟨?_, kk4⟩) fun h2 => ?_
  · rw [if_pos (.inl h1)]
  · rw [if_pos (.inr (.inl (by omega)))]
  unfold fetterlockref6_CountFault.l24
  refine LoopT.rule (fun m s0 H3 => ∃ i : Nat, i ≤ l.length ∧ m = l.length - i ∧ s0 = (n, .ptr (some (b1, 0)), (i : Int), ()) ∧ H3 = H4 ∧ ∀ j p, j < i → l[j]? = some p → p.1 < n) l.length ⟨0, by omega, by omega, rfl, rfl, fun j p h => by omega⟩ ?_
  rintro m s0 H3 back ⟨i, hi, rfl, rfl, rfl, hall⟩ hback
  simp only [fetterlockref6_CountFault.b24]
  refine FA.mk (Ld.oc (o1.kp k4) rfl (LenS.of (hs.kp kk4) ?_))
  rw [nodeRows_len]
  refine CondB.dec (fun hlt => ?_) fun hge => ⟨?_, kk4⟩
  · have hi' : i < l.length := by omega
    obtain ⟨p, hp⟩ : ∃ b, l[i]? = some b := ⟨_, List.getElem?_eq_getElem hi'⟩
    refine FA.mk (Ld.oc (o1.kp k4) rfl (IA.of (hs.kp kk4) (by omega) (by rw [Int.toNat_natCast]; exact nodeRow_at hp) fun b o hld => FA.mk (Ld.ei hld rfl ?_)))
    refine CondB.dec (fun h3 => ⟨?_, kk4⟩) fun h3 => ?_
    · rw [if_pos (.inr (.inr ⟨p, List.mem_of_getElem? hp, h3⟩))]
    · refine hback (l.length - (i + 1)) _ _ (by omega) ⟨i + 1, by omega, rfl, ?_, rfl, fun j q hj hq => ?_⟩
      · exact tc rfl (tc rfl (tc ((wrap64 (by omega) (by omega)).trans (by omega)) rfl))
      · by_cases hji : j = i
        · subst hji
          rw [hp] at hq
          cases hq
          omega
        · exact hall j q (by omega) hq
  · rw [if_neg]
    rintro (h | h | ⟨p, hp, h⟩)
    · exact h1 h
    · omega
    · obtain ⟨j, hj, e⟩ := List.getElem_of_mem hp
      have := hall j p (by omega) (by rw [List.getElem?_eq_getElem hj, e])
      omega

theorem mR_snoc (n : Nat) (g : (Nat → Bool) → Bool) (i : Nat) : mR n g 0 (i + 1) = mR n g 0 i ++ if g (asg n i) then [bitsL n i] else [] := by
  rw [mR_append, Nat.zero_add]
  congr 1
  unfold mR
  simp only [List.range'_one, List.filter_cons, List.filter_nil]
  cases g (asg n i) <;> rfl
theorem take_snoc {α : Type} {L : List α} {m : Nat} {y : α} (h : (L.take m).length < m) : (L ++ [y]).take m = L.take m ++ [y] := by
  rw [List.length_take] at h
  rw [List.take_append, List.take_of_length_le (by omega)]
  have : m - L.length = (m - L.length - 1) + 1 := by omega
  rw [this]
  simp
theorem take_full {α : Type} {L M : List α} {m : Nat} (h : ¬ (L.take m).length < m) : (L ++ M).take m = L.take m := by
  rw [List.length_take] at h
  rw [List.take_append_of_le_length (by omega)]
theorem bitsL_take (n i j : Nat) (hj : j < n) : (bitsL n i).take (j + 1) = (bitsL n i).take j ++ [if i.testBit (n - 1 - j) then 1 else 0] := by
  unfold bitsL
  rw [List.take_add_one, List.getElem?_map, List.getElem?_range hj]
  rfl
theorem rho_asg {n i : Nat} (hn : n ≤ 16) : ∀ w, w < 16 → rho (i <<< (16 - n)) w = asg n i w := by
  intro w hw
  unfold rho asg
  rw [Nat.testBit_shiftLeft]
  by_cases h : w < n
  · rw [decide_eq_true h, decide_eq_true (show 15 - w ≥ 16 - n by omega), show 15 - w - (16 - n) = n - 1 - w from by omega]
  · rw [decide_eq_false h, decide_eq_false (show ¬ 15 - w ≥ 16 - n by omega)]; rfl

theorem rModels_c {s : AC} {x : DT} {n : Nat} {most : Int} {H : AHeap} (hx : x.RO) (hs : SlR H s 3 (nodeRows (rowsOf x))) (hn : n ≤ 16) (hm0 : 0 ≤ most) :
    Fn.fetterlockref6_Models s (ref (ser x []) x) (n : Int) most H fun H' q => (∃ Fo Gi, LL H' q Fo Gi ((mR n x.eval 0 (2 ^ n)).take most.toNat)) ∧ Kp H H' := by
  refine fetterlockref6_Models.run ?_
  unfold fetterlockref6_Models.W
  refine New.own fun b1 H1 hb1 hs1 o1 k1 => Ld.o2 o1 s (ref (ser x []) x) rfl (RunT.imp ?_ (DiagramTable_c hx (hs.kp k1)))
  rintro H2 (tt : AC) ⟨⟨tb, cap, rfl, hot, htb⟩, k2⟩
  have kk2 := k1.trans k2
  have hp16 : 2 ^ n ≤ 65536 := pow2_lt hn
  have hshl : shl .i64 1 (n : Int) = ((2 ^ n : Nat) : Int) := by
    have := shl_nat (x := 1) (v := n) (by omega) (by rw [Nat.shiftLeft_eq, Nat.one_mul]; omega)
    rw [Nat.shiftLeft_eq, Nat.one_mul] at this
    exact this
  have hcell : ∀ j, j < 65536 → ((tabOf x.eval).map AC.bool)[j]? = some (.bool (x.eval (rho j))) := fun j hj => tab_cell hj
  obtain ⟨cs0, hcs0⟩ : ∃ cs, cs = (tabOf x.eval).map AC.bool := ⟨_, rfl⟩
  rw [← hcs0] at hot hcell
  obtain ⟨N, hN⟩ : ∃ N : Nat, N = 65536 := ⟨_, rfl⟩
  rw [show (65536 : Nat) = N from hN.symm]
  obtain ⟨M, hM⟩ : ∃ M : Nat, M = 2 ^ n := ⟨_, rfl⟩
  rw [← hM] at hp16 hshl ⊢
  have htl := hot.lt
  unfold fetterlockref6_Models.l10
  refine LoopT.rule (fun m s0 H3 => ∃ (i : Nat) (out : AC) (Fo Gi : Nat → Prop), i ≤ M ∧ m = M - i ∧ s0 = ((n : Int), most, .sl (some (tb, 0)) 1 N cap, out, (i : Int), ()) ∧ Kp H2 H3 ∧ Own H3 tb cs0 ∧ LL H3 out Fo Gi ((mR n x.eval 0 i).take most.toNat) ∧ (∀ y, Fo y ∨ Gi y → H2.size ≤ y)) M
    ⟨0, _, _, _, by omega, by omega, rfl, Kp.refl _, hot, by unfold mR; simpa using LL.nil H2, fun y h => h.elim False.elim False.elim⟩ ?_
  rintro m s0 H3 back ⟨i, out, Fo, Gi, hi, rfl, rfl, k23, hot3, hll, hnew⟩ hback
  have k3 := kk2.trans k23
  have hz23 := k23.size
  simp only [fetterlockref6_Models.b10]
  have hlM : ((mR n x.eval 0 i).take most.toNat).length ≤ 65536 := by
    rw [List.length_take]
    have : (mR n x.eval 0 i).length ≤ i := by
      unfold mR
      rw [List.length_map]
      exact Nat.le_trans (List.length_filter_le _ _) (by simp)
    omega
  refine GE0.mk (by omega) ?_
  rw [hshl]
  refine CondB.dec (fun hlt => ?_) fun hge => ?_
  · have hi' : i < M := by omega
    have hidx : i <<< (16 - n) < 65536 := by
      rw [Nat.shiftLeft_eq]
      have h1 : (i + 1) * 2 ^ (16 - n) ≤ M * 2 ^ (16 - n) := Nat.mul_le_mul_right _ (by omega)
      have h2 : M * 2 ^ (16 - n) = 65536 := by rw [hM, ← Nat.pow_add, show n + (16 - n) = 16 from by omega]
      have h3 : 0 < 2 ^ (16 - n) := Nat.two_pow_pos _
      rw [Nat.add_mul, Nat.one_mul] at h1
      omega
    have hval : x.eval (rho (i <<< (16 - n))) = x.eval (asg n i) := eval_congr16 (rho_asg hn) x hx
    refine hll.len ?_
    have skip : ((mR n x.eval 0 (i + 1)).take most.toNat) = (mR n x.eval 0 i).take most.toNat → fetterlockref6_Models.p21 (fun H' q => (∃ Fo Gi, LL H' q Fo Gi ((mR n x.eval 0 M).take most.toNat)) ∧ Kp H H') back (n : Int) most (.sl (some (tb, 0)) 1 N cap) out (i : Int) false H3 := by
      intro he
      unfold fetterlockref6_Models.p21
      refine CondB.neg rfl (hback (M - (i + 1)) _ _ (by omega) ⟨i + 1, out, Fo, Gi, by omega, rfl, ?_, k23, hot3, by rw [he]; exact hll, hnew⟩)
      exact tc rfl (tc rfl (tc rfl (tc rfl (tc ((wrap64 (by omega) (by omega)).trans (by omega)) rfl))))
    refine CondB.dec (fun hlm => ?_) fun hlm => ?_
    · have e16 : IntKind.wrap .i64 (16 - (n : Int)) = ((16 - n : Nat) : Int) := (wrap64 (by omega) (by omega)).trans (by omega)
      rw [e16]
      have esh : shl .i64 (i : Int) ((16 - n : Nat) : Int) = ((i <<< (16 - n) : Nat) : Int) := shl_nat (by omega) (by omega)
      refine GE0.mk (by omega) ?_
      rw [esh]
      obtain ⟨z, hz⟩ : ∃ z : Nat, z = i <<< (16 - n) := ⟨_, rfl⟩
      rw [← hz] at hidx hval ⊢
      clear esh
      refine IA.mk (by omega) (by omega) (Ld.ob hot3 (by rw [Nat.zero_add, Nat.mul_one, Int.toNat_natCast]; exact hcell _ hidx) ?_)
      rw [hval]
      cases hb : x.eval (asg n i) with
      | false =>
        refine skip ?_
        rw [mR_snoc, hb]
        simp
      | true =>
        have hlm' : ((mR n x.eval 0 i).take most.toNat).length < most.toNat := by omega
        unfold fetterlockref6_Models.p21
        refine CondB.pos rfl ?_
        unfold fetterlockref6_Models.l28
        refine LoopT.rule (fun m s0 H4 => ∃ (j : Nat) (a : AC) (Fa : Nat → Prop), j ≤ n ∧ m = n - j ∧ s0 = ((n : Int), most, .sl (some (tb, 0)) 1 N cap, out, (i : Int), a, (j : Int), ()) ∧ Kp H3 H4 ∧ OwnS H4 a 1 Fa (intRows ((bitsL n i).take j)) ∧ ∀ y, Fa y → H3.size ≤ y) n
          ⟨0, _, fun _ => False, by omega, by omega, rfl, Kp.refl _, by simpa [intRows] using OwnS.nil H3 1, fun y h => h.elim⟩ ?_
        rintro m s0 H4 back2 ⟨j, a, Fa, hj, rfl, rfl, k4, ha, hFa⟩ hback2
        simp only [fetterlockref6_Models.b28]
        have hbl : ((bitsL n i).take j).length ≤ 16 := by rw [List.length_take]; omega
        refine CondB.dec (fun hlt2 => ?_) fun hge2 => ?_
        · have ej : IntKind.wrap .i64 (IntKind.wrap .i64 ((n : Int) - 1) - (j : Int)) = ((n - 1 - j : Nat) : Int) := by
            rw [show IntKind.wrap .i64 ((n : Int) - 1) = ((n - 1 : Nat) : Int) from (wrap64 (by omega) (by omega)).trans (by omega)]
            exact (wrap64 (by omega) (by omega)).trans (by omega)
          rw [ej, bit_nat (by omega) (by omega)]
          refine GE0.mk (by omega) (NewS.own fun pb H5 hpb hs5 op k5 => ?_)
          refine App.own (ha.kp k5) (r := [AC.int .i64 (if i.testBit (n - 1 - j) then 1 else 0)]) ⟨pb, _, rfl, op.all⟩ rfl (by rw [intRows_len]; omega) (by rw [intRows_len]; omega) fun a' H6 sl6 k6 hs6 => ?_
          have hz4 := k4.size
          refine hback2 (n - (j + 1)) _ _ (by omega) ⟨j + 1, a', fun y => Fa y ∨ y = H5.size, by omega, rfl, ?_, (k4.trans k5).fresh k6 hFa, ?_, ?_⟩
          · exact tc rfl (tc rfl (tc rfl (tc rfl (tc rfl (tc rfl (tc ((wrap64 (by omega) (by omega)).trans (by omega)) rfl))))))
          · rw [bitsL_take n i j (by omega)]
            unfold intRows at sl6 ⊢
            rw [List.map_append]
            exact sl6
          · rintro y (h | h)
            · exact hFa y h
            · omega
        · have hjn : j = n := by omega
          subst hjn
          have hfull : (bitsL j i).take j = bitsL j i := List.take_of_length_le (by unfold bitsL; rw [List.length_map, List.length_range]; omega)
          rw [hfull] at ha
          refine NewS.own fun pb H5 hpb hs5 op k5 => ?_
          have ha5 := ha.kp k5
          have hll5 := (hll.kp k4).kp k5
          have hz4 := k4.size
          refine hll5.app (c := a) (l := bitsL j i) (G := fun y => Fa y) ⟨pb, _, rfl, op.all⟩ ha5.slr (fun b o z m cap e => ?_) (fun y hy => ⟨ha5.lt y hy, fun hF => by have := hll.lt y hF; have := hFa y hy; omega⟩) hlM fun s' H6 ll6 k6 hs6 => ?_
          · rcases ha5.ex with ⟨h1, _⟩ | ⟨b', e', g', st', cap', h1, _, _, _, h5, _⟩
            · rw [h1] at e; cases e
            · rw [h1] at e; cases e; exact h5
          · have hz3 := k3.size
            have hz2 := kk2.size
            refine hback (M - (i + 1)) _ _ (by omega) ⟨i + 1, s', fun y => Fo y ∨ y = H5.size, fun y => Gi y ∨ Fa y, by omega, rfl, ?_, ((k23.trans k4).trans k5).fresh k6 fun y h => hnew y (.inl h), ?_, ?_, fun y h => ?_⟩
            · exact tc rfl (tc rfl (tc rfl (tc rfl (tc ((wrap64 (by omega) (by omega)).trans (by omega)) rfl))))
            · exact ((hot3.kp k4).kp k5).keep k6 fun h => by have := hnew tb (.inl h); omega
            · rw [mR_snoc, hb, if_pos rfl, take_snoc hlm']
              exact ll6
            · rcases h with (h | h) | (h | h)
              · exact hnew y (.inl h)
              · have := hot3.lt; have := k4.size; omega
              · exact hnew y (.inr h)
              · have := hFa y h; omega
    · refine skip ?_
      rw [mR_snoc]
      exact take_full (by omega)
  · have : i = M := by omega
    subst this
    exact ⟨⟨Fo, Gi, hll⟩, k3⟩
end Go.Proofs.Ytanaaabejeeakaa
end
section
/- Cloning a list of whole numbers. -/
namespace Go.Proofs.Ytanaaabejeeakaa
open Go.AI Go.AI.DT

theorem clone_c {cb : Nat} {l : List Int} {H : AHeap} (hc : Own H cb (l.map (AC.int .i64))) (hl : l.length ≤ 64) :
    Fn.slices_Clone_int_int (.sl (some (cb, 0)) 1 l.length (some l.length)) H fun H' q => SlR H' q 1 (intRows l) ∧ (∀ b o z m cap, q = .sl (some (b, o)) z m cap → H.size ≤ b ∧ b < H'.size) ∧ Kp H H' := by
  refine slices_Clone_int_int.run ?_
  unfold slices_Clone_int_int.W
  simp only [NilQ]
  refine CondB.neg rfl (NewS.own fun b H1 hb hs1 ob k1 => ?_)
  have hc1 := hc.kp k1
  by_cases h0 : l.length = 0
  · have hl0 : l = [] := List.eq_nil_of_length_eq_zero h0
    subst hl0
    refine App.mk (n := 0) (cs := []) (s' := .sl (some (b, 0)) 1 0 (some 0)) (H' := H1) ?_ ?_ ⟨?_, fun b' o z m cap e => ?_, k1⟩
    · simp [srcA]
    · simp [appendA, maxBytes]
    · exact ⟨some (b, 0), 1, some 0, rfl, fun i r h => by simp [intRows] at h⟩
    · cases e; constructor <;> omega
  · have hld := hc1.all
    rw [List.length_map] at hld
    obtain ⟨e, hg⟩ := ob.get
    refine App.mk (n := l.length) (cs := l.map (AC.int .i64)) (s' := .sl (some (H1.size, 0)) 1 l.length none) (H' := H1.newRow 3 ((l.map (AC.int .i64)).map some)) ?_ ?_ ⟨?_, fun b' o z m cap e => ?_, k1.trans (Kp.newRow _ _ _)⟩
    · simp only [srcA, if_neg h0, Nat.mul_one, hld]
      rfl
    · have hmx : ¬ ((0 + l.length) * 8 > maxBytes ∨ 0 + l.length > 4611686018427387904) := by unfold maxBytes; omega
      simp only [appendA, if_neg hmx, if_neg h0, hg]
      simp
      intro h
      exact h0 (by rw [h]; rfl)
    · refine ⟨some (H1.size, 0), 1, none, by rw [intRows_len], fun i r hr => ⟨rfl, H1.size, 0, rfl, ?_⟩⟩
      unfold intRows at hr
      rw [List.getElem?_map, Option.map_eq_some_iff] at hr
      obtain ⟨x, hx, rfl⟩ := hr
      have hown : Own (H1.newRow 3 ((l.map (AC.int .i64)).map some)) H1.size (l.map (AC.int .i64)) := ⟨⟨3, by rw [AHeap.get_newRow, if_pos rfl]⟩, by rw [AHeap.ext_newRow, if_pos rfl]⟩
      rw [Nat.zero_add, Nat.mul_one]
      exact hown.cell (by rw [List.getElem?_map, hx]; rfl)
    · cases e
      have := k1.size
      refine ⟨by omega, by simp⟩

theorem lt59 : 59 < Try.prog.funcs.size := (Array.getElem?_eq_some_iff.1 Try.func59).1
end Go.Proofs.Ytanaaabejeeakaa
end
section
/- The bits of an assignment, one after another. -/
namespace Go.AI
open DT

theorem bitsL_len (n i : Nat) : (bitsL n i).length = n := by unfold bitsL; rw [List.length_map, List.length_range]
theorem bitsL_get {n i w : Nat} (hw : w < n) : (bitsL n i)[w]? = some (if i.testBit (n - 1 - w) then 1 else 0) := by
  unfold bitsL
  rw [List.getElem?_map, List.getElem?_range hw]
  rfl
theorem bit_pre {n v p b w : Nat} (hv : v < n) (hb : b < 2) (hw : w < v) : ((2 * p + b) * 2 ^ (n - (v + 1))).testBit (n - 1 - w) = (p * 2 ^ (n - v)).testBit (n - 1 - w) := by
  rw [Nat.testBit_mul_two_pow, Nat.testBit_mul_two_pow, decide_eq_true (show n - (v + 1) ≤ n - 1 - w by omega), decide_eq_true (show n - v ≤ n - 1 - w by omega)]
  rw [show n - 1 - w - (n - (v + 1)) = (n - 1 - w - (n - v)) + 1 from by omega, Nat.testBit_succ, show (2 * p + b) / 2 = p from by omega]
theorem bit_now {n v p b : Nat} (hv : v < n) (hb : b < 2) : ((2 * p + b) * 2 ^ (n - (v + 1))).testBit (n - 1 - v) = decide (b = 1) := by
  rw [Nat.testBit_mul_two_pow, decide_eq_true (show n - (v + 1) ≤ n - 1 - v by omega), show n - 1 - v - (n - (v + 1)) = 0 from by omega, Nat.testBit_zero]
  rw [Bool.true_and]
  congr 1
  apply propext
  constructor <;> intro h <;> omega
theorem bits_step {n v p b : Nat} (hv : v < n) (hb : b < 2) {l : List Int} (hl : l.length = n) (h : l.take v = (bitsL n (p * 2 ^ (n - v))).take v) :
    (l.set v (b : Int)).take (v + 1) = (bitsL n ((2 * p + b) * 2 ^ (n - (v + 1)))).take (v + 1) := by
  apply List.ext_getElem?
  intro w
  rw [List.getElem?_take, List.getElem?_take]
  by_cases hw : w < v + 1
  · rw [if_pos hw, if_pos hw, bitsL_get (by omega)]
    by_cases hwv : w = v
    · subst hwv
      rw [List.getElem?_set_self (by omega), bit_now hv hb]
      have : b = 0 ∨ b = 1 := by omega
      rcases this with rfl | rfl <;> rfl
    · rw [List.getElem?_set_ne (by omega), bit_pre hv hb (by omega)]
      have e := congrArg (fun z => z[w]?) h
      simp only [List.getElem?_take] at e
      rw [if_pos (by omega), if_pos (by omega), bitsL_get (by omega)] at e
      exact e
  · rw [if_neg hw, if_neg hw]
theorem bits_all {n p : Nat} {l : List Int} (hl : l.length = n) (h : l.take n = (bitsL n (p * 2 ^ (n - n))).take n) : l = bitsL n p := by
  rw [Nat.sub_self, Nat.pow_zero, Nat.mul_one] at h
  rwa [List.take_of_length_le (by omega), List.take_of_length_le (by rw [bitsL_len]; omega)] at h
theorem take_take_append {α : Type} (X Y : List α) (m : Nat) : (X.take m ++ Y).take m = (X ++ Y).take m := by
  by_cases h : X.length ≤ m
  · rw [List.take_of_length_le h]
  · rw [List.take_append_of_le_length (by rw [List.length_take]; omega), List.take_append_of_le_length (by omega), List.take_take, Nat.min_self]
end Go.AI
end
section
/- Models: the walk. -/
namespace Go.Proofs.Ytanaaabejeeakaa
open Go.AI Go.AI.DT

/-- Where the walk keeps what it has. -/
structure MP where
  (ob mb nb vb xb sb cb : Nat)
def MP.loc (p : MP) (y : Nat) : Prop := y = p.ob ∨ y = p.mb ∨ y = p.nb ∨ y = p.vb ∨ y = p.xb ∨ y = p.sb ∨ y = p.cb
structure MS (H : AHeap) (p : MP) (s : AC) (r0 : Int) (n : Nat) (most : Int) (Fo Gi : Nat → Prop) (L : List (List Int)) (cs : List Int) : Prop where
  o1 : ∃ out, Own H p.ob [out] ∧ LL H out Fo Gi L
  o2 : Own H p.mb [.int .i64 most]
  o3 : Own H p.nb [.int .i64 (n : Int)]
  o4 : Own H p.vb [.sl (some (p.cb, 0)) 1 n (some n)]
  o5 : Own H p.xb [s, .int .i64 r0]
  o6 : Own H p.sb [.fn 59 [] [(p.ob, 0), (p.mb, 0), (p.nb, 0), (p.vb, 0), (p.xb, 0), (p.sb, 0)]]
  oc : Own H p.cb (cs.map (AC.int .i64))
  len : cs.length = n
  d : ∀ y, Fo y ∨ Gi y → ¬ p.loc y
  ne1 : p.ob ≠ p.mb ∧ p.ob ≠ p.nb ∧ p.ob ≠ p.vb ∧ p.ob ≠ p.xb ∧ p.ob ≠ p.sb ∧ p.ob ≠ p.cb
  ne2 : p.cb ≠ p.mb ∧ p.cb ≠ p.nb ∧ p.cb ≠ p.vb ∧ p.cb ≠ p.xb ∧ p.cb ≠ p.sb
theorem MS.kp {H H' : AHeap} {p : MP} {s : AC} {r0 : Int} {n : Nat} {most : Int} {Fo Gi : Nat → Prop} {L : List (List Int)} {cs : List Int} (h : MS H p s r0 n most Fo Gi L cs) (k : Kp H H') : MS H' p s r0 n most Fo Gi L cs :=
  ⟨let ⟨o, a, b⟩ := h.o1; ⟨o, a.kp k, b.kp k⟩, h.o2.kp k, h.o3.kp k, h.o4.kp k, h.o5.kp k, h.o6.kp k, h.oc.kp k, h.len, h.d, h.ne1, h.ne2⟩
theorem MS.lt {H : AHeap} {p : MP} {s : AC} {r0 : Int} {n : Nat} {most : Int} {Fo Gi : Nat → Prop} {L : List (List Int)} {cs : List Int} (h : MS H p s r0 n most Fo Gi L cs) : ∀ y, p.loc y → y < H.size := by
  obtain ⟨out, a, _⟩ := h.o1
  rintro y (e | e | e | e | e | e | e)
  · rw [e]; exact a.lt
  · rw [e]; exact h.o2.lt
  · rw [e]; exact h.o3.lt
  · rw [e]; exact h.o4.lt
  · rw [e]; exact h.o5.lt
  · rw [e]; exact h.o6.lt
  · rw [e]; exact h.oc.lt
def MT (p : MP) (Fo : Nat → Prop) (y : Nat) : Prop := y = p.ob ∨ y = p.cb ∨ Fo y
/-- A value is written. -/
theorem MS.put {H : AHeap} {p : MP} {s : AC} {r0 : Int} {n : Nat} {most : Int} {Fo Gi : Nat → Prop} {L : List (List Int)} {cs : List Int} (h : MS H p s r0 n most Fo Gi L cs) {v : Nat} (hv : v < n) {b : Int} {K : AHeap → Prop}
    (q : ∀ H', MS H' p s r0 n most Fo Gi L (cs.set v b) → Keep (fun y => y = p.cb) H H' → H'.size = H.size → K H') : Sto H (.ptr (some (p.cb, 0 + (v : Int).toNat * 1))) [.int .i64 b] K := by
  have hcl := h.len
  refine Sto.cell h.oc (by simp [hcl]; omega) fun H' oc' k' hs' => q H' ?_ k' hs'
  obtain ⟨out, a, b'⟩ := h.o1
  have hcb : p.loc p.cb := .inr (.inr (.inr (.inr (.inr (.inr rfl)))))
  refine ⟨⟨out, a.keep k' (fun e => h.ne1.2.2.2.2.2 e), b'.keep k' fun y e => ?_⟩, h.o2.keep k' (fun e => h.ne2.1 e.symm), h.o3.keep k' (fun e => h.ne2.2.1 e.symm), h.o4.keep k' (fun e => h.ne2.2.2.1 e.symm), h.o5.keep k' (fun e => h.ne2.2.2.2.1 e.symm), h.o6.keep k' (fun e => h.ne2.2.2.2.2 e.symm), ?_, by rw [List.length_set, hcl], h.d, h.ne1, h.ne2⟩
  · subst e
    exact ⟨fun e => h.d _ (.inl e) hcb, fun e => h.d _ (.inr e) hcb⟩
  · rw [List.map_set]
    simpa using oc'

def MPost (H : AHeap) (p : MP) (s : AC) (r0 : Int) (n : Nat) (most : Int) (Fo : Nat → Prop) (v : Nat) (L' : List (List Int)) (cs : List Int) (H' : AHeap) : Prop :=
  ∃ Fo' Gi' cs', MS H' p s r0 n most Fo' Gi' L' cs' ∧ cs'.take v = cs.take v ∧ Keep (MT p Fo) H H' ∧ ∀ y, Fo' y → Fo y ∨ H.size ≤ y
end Go.Proofs.Ytanaaabejeeakaa
end
section
/- Models: the walk itself. -/
namespace Go.Proofs.Ytanaaabejeeakaa
open Go.AI Go.AI.DT

theorem mR_false (n a k : Nat) : mR n (leaf false).eval a k = [] := by
  unfold mR
  simp [eval]

theorem walk_m {st : List DT} {s : AC} {r0 : Int} {n : Nat} {most : Int} {p : MP} {H0 : AHeap} (hn : n ≤ 16) (hs : SlR H0 s 3 (nodeRows (st.map (row st)))) (hfin : Fin st) (hm0 : 0 ≤ most) (hm1 : most ≤ 2000) (hloc : ∀ y, p.loc y → H0.size ≤ y) :
    ∀ (k v pp : Nat) (t : DT) {H : AHeap} {Fo Gi : Nat → Prop} {L : List (List Int)} {cs : List Int}, n - v = k → v ≤ n → In st t → t.RO → VarsLt n t → v ≤ t.top → MS H p s r0 n most Fo Gi L cs → Old H0 H → (∀ y, Fo y → H0.size ≤ y) → (L.length : Int) ≤ most → cs.take v = (bitsL n (pp * 2 ^ (n - v))).take v →
      Fn.solve_Models_1 (ref st t) (v : Int) (.ptr (some (p.ob, 0))) (.ptr (some (p.mb, 0))) (.ptr (some (p.nb, 0))) (.ptr (some (p.vb, 0))) (.ptr (some (p.xb, 0))) (.ptr (some (p.sb, 0))) H fun H' => MPost H p s r0 n most Fo v ((L ++ mR n t.eval (pp * 2 ^ (n - v)) (2 ^ (n - v))).take most.toNat) cs H' := by
  intro k
  induction k with
  | zero =>
    intro v pp t H Fo Gi L cs hk hv hin hro hvl htop ms hold hFo hL hpre
    have hvn : v = n := by omega
    subst hvn
    have hLt : L.take most.toNat = L := List.take_of_length_le (by omega)
    refine solve_Models_1.run ?_
    unfold solve_Models_1.W
    have skip : (L ++ mR v t.eval (pp * 2 ^ (v - v)) (2 ^ (v - v))).take most.toNat = L → MPost H p s r0 v most Fo v ((L ++ mR v t.eval (pp * 2 ^ (v - v)) (2 ^ (v - v))).take most.toNat) cs H := fun e =>
      ⟨Fo, Gi, cs, by rw [e]; exact ms, rfl, Keep.refl _ _, fun y h => .inl h⟩
    unfold solve_Models_1.p3
    refine CondB.eq (fun h => CondB.pos rfl (skip ?_)) fun h => ?_
    · rw [ref_false.1 h, mR_false, List.append_nil, hLt]
    obtain ⟨out, ho, hll⟩ := ms.o1
    refine Ld.oc ho rfl (hll.len (Ld.oi ms.o2 rfl (CondB.dec (fun h1 => skip ?_) fun h1 => Ld.oi ms.o3 rfl (CondB.pos (by simp) ?_))))
    · have h1' : most ≤ (L.length : Int) := h1
      rw [List.take_append_of_le_length (by omega), hLt]
    have ht : t = leaf true := by
      cases t with
      | leaf b => cases b with
        | false => exact absurd rfl h
        | true => rfl
      | nd w l r => have := hvl.1; simp only [top] at htop; omega
    have hcs : cs = bitsL v pp := bits_all ms.len hpre
    refine Ld.oc ho rfl (Ld.oc ms.o4 rfl ?_)
    have hcl := ms.len
    have hcl' : (.sl (some (p.cb, 0)) 1 v (some v) : AC) = .sl (some (p.cb, 0)) 1 cs.length (some cs.length) := by rw [hcl]
    rw [hcl']
    refine RunT.imp ?_ (clone_c ms.oc (by omega))
    rintro H1 (c : AC) ⟨hc, hcb, k1⟩
    refine NewS.own fun pb H2 hpb hs2 op k2 => ?_
    have k12 := k1.trans k2
    have hz1 := k1.size
    have hd := ms.d
    have hob : p.loc p.ob := .inl rfl
    have hlt := hll.lt
    refine (hll.kp k12).app (c := c) (l := cs) (G := fun y => ∃ o z m cap, c = .sl (some (y, o)) z m cap) ⟨pb, _, rfl, op.all⟩ (hc.kp k2) (fun b o z m cap e => ⟨o, z, m, cap, e⟩) (fun y hy => ?_) (by omega) fun s' H3 ll3 k3 hs3 => ?_
    · obtain ⟨o, z, m, cap, e⟩ := hy
      have h2 := hcb y o z m cap e
      have := k2.size
      exact ⟨by omega, fun hF => by have := hlt y hF; omega⟩
    have ms2 := ms.kp k12
    have ho3 := (ho.kp k12).keep k3 (fun e => hd _ (.inl e) hob)
    refine Sto.own ho3 (Nat.le_refl 1) fun H4 o4 k4 hs4 => ⟨Same1.mk (((ho.kp k1).cell rfl).trans (ho.cell rfl).symm), ?_⟩
    have hz2 := k2.size
    have out : ∀ {b : Nat} {z : List AC}, p.loc b → b ≠ p.ob → Own H2 b z → Own H4 b z := fun hl hne h => (h.keep k3 fun e => hd _ (.inl e) hl).keep k4 hne
    have hobl := ho.lt
    have e2 : (L ++ mR v t.eval (pp * 2 ^ (v - v)) (2 ^ (v - v))).take most.toNat = L ++ [cs] := by
      rw [mR_base hvl htop, if_pos ht, ← hcs, List.take_of_length_le (by simp; omega)]
    rw [e2]
    refine ⟨_, _, cs, ⟨⟨s', o4, ll3.keep k4 fun y e => ?_⟩, out (.inr (.inl rfl)) (fun e => ms.ne1.1 e.symm) ms2.o2, out (.inr (.inr (.inl rfl))) (fun e => ms.ne1.2.1 e.symm) ms2.o3, out (.inr (.inr (.inr (.inl rfl)))) (fun e => ms.ne1.2.2.1 e.symm) ms2.o4,
      out (.inr (.inr (.inr (.inr (.inl rfl))))) (fun e => ms.ne1.2.2.2.1 e.symm) ms2.o5, out (.inr (.inr (.inr (.inr (.inr (.inl rfl)))))) (fun e => ms.ne1.2.2.2.2.1 e.symm) ms2.o6, out (.inr (.inr (.inr (.inr (.inr (.inr rfl)))))) (fun e => ms.ne1.2.2.2.2.2 e.symm) ms2.oc, ms.len, fun y hy hl => ?_, ms.ne1, ms.ne2⟩, rfl, ?_, ?_⟩
    · have e' : y = p.ob := e
      subst e'
      refine ⟨fun h => h.elim (fun h => hd _ (.inl h) hob) fun h => by omega, fun h => h.elim (fun h => hd _ (.inr h) hob) fun ⟨o, z, m, cap, e⟩ => ?_⟩
      have := (hcb _ o z m cap e).1
      omega
    · have hlo := ms.lt y hl
      rcases hy with (h | h) | (h | ⟨o, z, m, cap, e⟩)
      · exact hd y (.inl h) hl
      · omega
      · exact hd y (.inr h) hl
      · have := (hcb y o z m cap e).1
        omega
    · exact Keep.trans (Keep.trans (k12.mono fun _ _ h => h.elim) k3 fun y _ e => .inr (.inr e)) k4 fun y _ e => .inl e
    · rintro y (h | h)
      · exact .inl h
      · exact .inr (by omega)
  | succ k ih =>
    intro v pp t H Fo Gi L cs hk hv hin hro hvl htop ms hold hFo hL hpre
    have hvn : v < n := by omega
    have hLt : L.take most.toNat = L := List.take_of_length_le (by omega)
    refine solve_Models_1.run ?_
    unfold solve_Models_1.W
    have skip : (L ++ mR n t.eval (pp * 2 ^ (n - v)) (2 ^ (n - v))).take most.toNat = L → MPost H p s r0 n most Fo v ((L ++ mR n t.eval (pp * 2 ^ (n - v)) (2 ^ (n - v))).take most.toNat) cs H := fun e =>
      ⟨Fo, Gi, cs, by rw [e]; exact ms, rfl, Keep.refl _ _, fun y h => .inl h⟩
    unfold solve_Models_1.p3
    refine CondB.eq (fun h => CondB.pos rfl (skip ?_)) fun h => ?_
    · rw [ref_false.1 h, mR_false, List.append_nil, hLt]
    obtain ⟨out, ho, hll⟩ := ms.o1
    refine Ld.oc ho rfl (hll.len (Ld.oi ms.o2 rfl (CondB.dec (fun h1 => skip ?_) fun h1 => Ld.oi ms.o3 rfl (CondB.neg (by simp; omega) ?_))))
    · have h1' : most ≤ (L.length : Int) := h1
      rw [List.take_append_of_le_length (by omega), hLt]
    rw [mR_split hvn hn hro htop]
    obtain ⟨M0, hM0⟩ : ∃ M0, M0 = mR n (t.lo v).eval ((2 * pp) * 2 ^ (n - (v + 1))) (2 ^ (n - (v + 1))) := ⟨_, rfl⟩
    obtain ⟨M1, hM1⟩ : ∃ M1, M1 = mR n (t.hi v).eval ((2 * pp + 1) * 2 ^ (n - (v + 1))) (2 ^ (n - (v + 1))) := ⟨_, rfl⟩
    rw [← hM0, ← hM1]
    obtain ⟨Lb, hLb⟩ : ∃ Lb : Nat → List (List Int), Lb = fun b => (L ++ if b = 0 then [] else if b = 1 then M0 else M0 ++ M1).take most.toNat := ⟨_, rfl⟩
    unfold solve_Models_1.l17
    refine LoopT.rule (fun m s0 H1 => ∃ (b : Nat) (Fo1 Gi1 : Nat → Prop) (cs1 : List Int), b ≤ 2 ∧ m = 2 - b ∧ s0 = (ref st t, (v : Int), .ptr (some (p.vb, 0)), .ptr (some (p.xb, 0)), .ptr (some (p.sb, 0)), (b : Int), ()) ∧ MS H1 p s r0 n most Fo1 Gi1 (Lb b) cs1 ∧ cs1.take v = cs.take v ∧ Keep (MT p Fo) H H1 ∧ ∀ y, Fo1 y → Fo y ∨ H.size ≤ y) 2
      ⟨0, Fo, Gi, cs, by omega, rfl, rfl, by rw [hLb]; simp only [if_true, List.append_nil]; rw [hLt]; exact ms, rfl, Keep.refl _ _, fun y h => .inl h⟩ ?_
    rintro m s0 H1 back ⟨b, Fo1, Gi1, cs1, hb, rfl, rfl, ms1, hcs1, k1, fr1⟩ hback
    simp only [solve_Models_1.b17]
    refine CondB.dec (fun hlt => ?_) fun hge => ?_
    · have hb2 : b < 2 := by omega
      have old1 : Old H0 H1 := hold.keep k1 fun y e => by
        rcases e with e | e | e
        · exact hloc y (.inl e)
        · exact hloc y (.inr (.inr (.inr (.inr (.inr (.inr e))))))
        · exact hFo y e
      have hz0 := hold.1
      have hFo1 : ∀ y, Fo1 y → H0.size ≤ y := fun y e => (fr1 y e).elim (hFo y) fun e => by omega
      refine Ld.oc ms1.o4 rfl (IA.mk (by omega) (by omega) (ms1.put hvn fun H2 ms2 k2 hs2 => ?_))
      have old2 : Old H0 H2 := old1.keep k2 fun y e => hloc y (.inr (.inr (.inr (.inr (.inr (.inr e))))))
      obtain ⟨nx, hnx⟩ : ∃ nx, nx = if b = 0 then t.lo v else t.hi v := ⟨_, rfl⟩
      have go : ∀ H3, Kp H2 H3 → In st nx → solve_Models_1.p38 (fun H' => MPost H p s r0 n most Fo v ((L ++ (M0 ++ M1)).take most.toNat) cs H') back (ref st t) (v : Int) (.ptr (some (p.vb, 0))) (.ptr (some (p.xb, 0))) (.ptr (some (p.sb, 0))) (ref st nx) (b : Int) H3 := by
        intro H3 k3 hinx
        have hl := lo_spec hro htop (by omega)
        have hh := hi_spec hro htop (by omega)
        have hvv := varsLt_lo v hvl
        have nro : nx.RO ∧ v < nx.top ∧ VarsLt n nx := by
          rw [hnx]
          split
          · exact ⟨hl.1, hl.2.1, hvv.1⟩
          · exact ⟨hh.1, hh.2.1, hvv.2⟩
        have ms3 := ms2.kp k3
        unfold solve_Models_1.p38
        refine Ld.oc ms3.o6 rfl ?_
        rw [show IntKind.wrap .i64 ((v : Int) + 1) = ((v + 1 : Nat) : Int) from (wrap64 (by omega) (by omega)).trans (by omega)]
        have hlenb : ((Lb b).length : Int) ≤ most := by
          rw [hLb]
          simp only [List.length_take]
          omega
        have hpre1 : cs1.take v = (bitsL n (pp * 2 ^ (n - v))).take v := hcs1.trans hpre
        refine CVT.imp ?_ (CVT.mk lt59 (ih (v + 1) (2 * pp + b) nx (by omega) (by omega) hinx nro.1 nro.2.2 nro.2.1 ms3 (old2.kp k3) hFo1 hlenb (bits_step hvn hb2 ms1.len hpre1)))
        rintro H4 ⟨Fo2, Gi2, cs2, ms4, hcs2, k4, fr4⟩
        have hzk1 := k1.size
        have hzk3 := k3.size
        have eL : (Lb b ++ mR n nx.eval ((2 * pp + b) * 2 ^ (n - (v + 1))) (2 ^ (n - (v + 1)))).take most.toNat = Lb (b + 1) := by
          rw [hLb, hnx]
          have hb' : b = 0 ∨ b = 1 := by omega
          rcases hb' with rfl | rfl
          · simp only [if_true, Nat.add_zero, List.append_nil]
            rw [take_take_append, ← hM0]
            rfl
          · simp only [Nat.one_ne_zero, if_false, if_true]
            rw [take_take_append, ← hM1, List.append_assoc]
            rfl
        rw [eL] at ms4
        have hcs2' : cs2.take v = cs.take v := by
          rw [← hcs1]
          apply List.ext_getElem?
          intro w
          rw [List.getElem?_take, List.getElem?_take]
          by_cases hw : w < v
          · have e := congrArg (fun z => z[w]?) hcs2
            simp only [List.getElem?_take] at e
            rw [if_pos (by omega), if_pos (by omega), List.getElem?_set_ne (by omega)] at e
            rw [if_pos hw, if_pos hw, e]
          · rw [if_neg hw, if_neg hw]
        refine hback (2 - (b + 1)) _ _ (by omega) ⟨b + 1, Fo2, Gi2, cs2, by omega, rfl, ?_, ms4, hcs2', ?_, fun y h => (fr4 y h).elim (fr1 y) fun e => .inr (by omega)⟩
        · exact tc rfl (tc rfl (tc rfl (tc rfl (tc rfl (tc ((wrap64 (by omega) (by omega)).trans (by omega)) rfl)))))
        · refine Keep.trans (Keep.trans' (Keep.trans k1 k2 fun y _ e => .inr (.inl e)) k3) k4 fun y hy e => ?_
          rcases e with e | e | e
          · exact .inl e
          · exact .inr (.inl e)
          · exact (fr1 y e).elim (fun e => .inr (.inr e)) fun e => by omega
      have same : t.lo v = t → t.hi v = t → nx = t := fun e1 e2 => by rw [hnx]; split <;> assumption
      unfold solve_Models_1.p35
      refine CondB.dec (fun h0 => ?_) fun h0 => ?_
      · have h0' : 0 ≤ ref st t := h0
        cases t with
        | leaf c => exfalso; cases c <;> simp [ref] at h0'
        | nd w l r =>
          have hg := ref_get hin h0'
          obtain ⟨_, _, _, e0, inl, inr, _⟩ := hfin.parts _ (List.mem_of_getElem? hg)
          cases e0
          have hrow : (nodeRows (st.map (row st)))[(ref st (nd w l r)).toNat]? = some (nodeCells ((w : Int), ref st l, ref st r)) := nodeRow_at (by rw [List.getElem?_map, hg]; rfl)
          refine FA.mk (Ld.oc ms2.o5 rfl (IA.of (hs.old old2) h0' hrow fun b1 o1 hld => FA.mk (Ld.ei hld rfl (CondB.eq (fun hw => ?_) fun hw => ?_))))
          · have hw' : w = v := by omega
            refine FA.mk (Ld.oc ms2.o5 rfl (IA.of (hs.old old2) h0' hrow fun b1 o1 hld => FA.mk (Ld.ei hld rfl ?_)))
            refine FA.mk (Ld.oc ms2.o5 rfl (IA.of (hs.old old2) h0' hrow fun b1 o1 hld => FA.mk (Ld.ei hld rfl ?_)))
            refine NewS.own fun ab H3 hab hs3 oa k3 => IA.mk (by omega) (by omega) ?_
            have hb' : b = 0 ∨ b = 1 := by omega
            rcases hb' with rfl | rfl
            · have hnl : nx = l := by rw [hnx]; simp [lo, hw']
              refine Ld.oi oa (n := ref st nx) (by rw [hnl]; rfl) (go H3 k3 (by rw [hnl]; exact inl))
            · have hnr : nx = r := by rw [hnx]; simp [hi, hw']
              refine Ld.oi oa (n := ref st nx) (by rw [hnr]; rfl) (go H3 k3 (by rw [hnr]; exact inr))
          · have hw' : w ≠ v := fun e => hw (by omega)
            have e := same (by simp [lo, hw']) (by simp [hi, hw'])
            have g := go H2 (Kp.refl _) (by rw [e]; exact hin)
            rw [e] at g
            exact g
      · obtain ⟨c, rfl⟩ := ref_leaf.1 (show ref st t < 0 by have : ¬ ref st t ≥ 0 := h0; omega)
        have e := same rfl rfl
        have g := go H2 (Kp.refl _) (by rw [e]; exact hin)
        rw [e] at g
        exact CondB.neg rfl g
    · have hb2 : b = 2 := by omega
      subst hb2
      exact ⟨Fo1, Gi1, cs1, by rw [hLb] at ms1; exact ms1, hcs1, k1, fr1⟩
end Go.Proofs.Ytanaaabejeeakaa
end
section
/- Printed by a program: functions and what must hold ahead of them. -/
namespace Go.Proofs.Ytanaaabejeeakaa
open Go.AI
set_option maxRecDepth 100000
set_option maxHeartbeats 2000000
set_option linter.unusedVariables false
attribute [local irreducible] Ld Sto New NewS NewM NN NZ GE0 FA IA IAP LenS Slc App Cpy Clr MkS Fnc NilQ IxS Look MSet Run CV RunT CVT LoopT Same1 Same2 wpC wpOs wpT wpO wpOp

def fetterlocklaw6_BoolModelsMatchSpec.c27 : RC := (.cond 67 (.seq (.ops [.put 68 (.mov (.tm 10)),
    .put 69 (.cm .eq (.tm 68) (.ct (.one (.int .i64 1)))),
    .put 70 (.mov (.tm 69)),
    .gput 71 70 true (.mov (.tm 9)),
    .gput 72 70 true (.lens (.tm 71)),
    .gput 73 70 true (.cm .eq (.tm 72) (.ct (.one (.int .i64 0)))),
    .put 74 (.pick (.tm 70) (.tm 73) (.ct (.one (.bool false)))),
    .put 75 (.mov (.tm 74)),
    .gput 76 75 true (.call 19 []),
    .put 77 (.pick (.tm 75) (.tm 76) (.ct (.one (.bool false)))),
    .put 6 (.mov (.tm 77))]) .ret) .skip)
def fetterlocklaw6_BoolModelsMatchSpec.c19 : RC := (.cond 61 (.seq (.ops [.put 6 (.mov (.ct (.one (.bool false))))]) .ret) .skip)
def fetterlocklaw6_BoolModelsMatchSpec.c : RC := (.seq (.ops [.put 3 (.box 27 (.tm 0)),
    .put 6 (.mov (.ct (.one (.bool false))))]) (.seq (.ops [.put 13 (.ld true [.ac, .int .i64] (.tm 3)),
    .put 14 (.mov (.tm 1)),
    .put 15 (.call 24 [(.tm 13), (.tm 14)]),
    .put 12 (.mov (.tm 15)),
    .put 16 (.ex (.tm 12) 0),
    .put 17 (.ex (.tm 12) 1),
    .put 7 (.mov (.tm 16)),
    .put 8 (.mov (.tm 17))]) (.seq (.ops [.put 19 (.ld true [.ac, .int .i64] (.tm 3)),
    .put 20 (.mov (.tm 1)),
    .put 21 (.mov (.tm 2)),
    .put 22 (.call 25 [(.tm 19), (.tm 20), (.tm 21)]),
    .put 18 (.mov (.tm 22)),
    .put 23 (.ex (.tm 18) 0),
    .put 24 (.ex (.tm 18) 1),
    .put 9 (.mov (.tm 23)),
    .put 10 (.mov (.tm 24))]) (.seq (.ops [.put 25 (.ld true [.ac, .int .i64] (.tm 3)),
    .put 26 (.mov (.tm 1)),
    .put 27 (.call 26 [(.tm 25), (.tm 26)]),
    .put 11 (.mov (.tm 27))]) (.seq (.seq (.ops [.put 28 (.mov (.tm 11)),
    .put 29 (.cm .ne (.tm 28) (.ct (.one (.int .i64 0))))]) (.cond 29 (.seq (.ops [.put 30 (.mov (.tm 8)),
    .put 31 (.mov (.tm 11)),
    .put 32 (.cm .eq (.tm 30) (.tm 31)),
    .put 33 (.mov (.tm 32)),
    .gput 34 33 true (.mov (.tm 10)),
    .gput 35 33 true (.mov (.tm 11)),
    .gput 36 33 true (.cm .eq (.tm 34) (.tm 35)),
    .put 37 (.pick (.tm 33) (.tm 36) (.ct (.one (.bool false)))),
    .put 38 (.mov (.tm 37)),
    .gput 39 38 true (.mov (.tm 7)),
    .gput 40 38 true (.cm .eq (.tm 39) (.ct (.one (.int .i64 0)))),
    .put 41 (.pick (.tm 38) (.tm 40) (.ct (.one (.bool false)))),
    .put 42 (.mov (.tm 41)),
    .gput 43 42 true (.mov (.tm 9)),
    .gput 44 42 true (.lens (.tm 43)),
    .gput 45 42 true (.cm .eq (.tm 44) (.ct (.one (.int .i64 0)))),
    .put 46 (.pick (.tm 42) (.tm 45) (.ct (.one (.bool false)))),
    .put 47 (.mov (.tm 46)),
    .gput 48 47 true (.call 19 []),
    .put 49 (.pick (.tm 47) (.tm 48) (.ct (.one (.bool false)))),
    .put 6 (.mov (.tm 49))]) .ret) .skip)) (.seq (.seq (.ops [.put 50 (.mov (.tm 8)),
    .put 51 (.cm .ne (.tm 50) (.ct (.one (.int .i64 0)))),
    .put 52 (.mov (.tm 51)),
    .gput 53 52 false (.mov (.tm 7)),
    .gput 54 52 false (.ld true [.ac, .int .i64] (.tm 3)),
    .gput 55 52 false (.mov (.tm 1)),
    .gput 56 52 false (.mov (.tm 1)),
    .gput 57 52 false (.sh true (.ct (.one (.int .i64 1))) (.tm 56)),
    .gput 58 52 false (.call 27 [(.tm 54), (.tm 55), (.tm 57)]),
    .gput 59 52 false (.lens (.tm 58)),
    .gput 60 52 false (.cm .ne (.tm 53) (.tm 59)),
    .put 61 (.pick (.tm 52) (.ct (.one (.bool true))) (.tm 60))]) fetterlocklaw6_BoolModelsMatchSpec.c19) (.seq (.seq (.ops [.put 62 (.mov (.tm 2)),
    .put 63 (.cm .lt (.tm 62) (.ct (.one (.int .i64 0)))),
    .put 64 (.mov (.tm 63)),
    .gput 65 64 false (.mov (.tm 2)),
    .gput 66 64 false (.cm .gt (.tm 65) (.ct (.one (.int .i64 2000)))),
    .put 67 (.pick (.tm 64) (.ct (.one (.bool true))) (.tm 66))]) fetterlocklaw6_BoolModelsMatchSpec.c27) (.seq (.ops [.put 78 (.mov (.tm 10)),
    .put 79 (.cm .eq (.tm 78) (.ct (.one (.int .i64 0)))),
    .put 80 (.mov (.tm 79)),
    .gput 81 80 true (.mov (.tm 9)),
    .gput 82 80 true (.ld true [.ac, .int .i64] (.tm 3)),
    .gput 83 80 true (.mov (.tm 1)),
    .gput 84 80 true (.mov (.tm 2)),
    .gput 85 80 true (.call 27 [(.tm 82), (.tm 83), (.tm 84)]),
    .gput 86 80 true (.call 28 [(.tm 81), (.tm 85)]),
    .put 87 (.pick (.tm 80) (.tm 86) (.ct (.one (.bool false)))),
    .put 88 (.mov (.tm 87)),
    .gput 89 88 true (.call 19 []),
    .put 90 (.pick (.tm 88) (.tm 89) (.ct (.one (.bool false)))),
    .put 6 (.mov (.tm 90))]) .ret))))))))
abbrev fetterlocklaw6_BoolModelsMatchSpec.KQ (Q : AHeap → Bool → Prop) : AV → AHeap → Prop := fun v H => ∃ xs : Tup (flat [(false, [.bool])]), v = joinR (splitP [(false, [.bool])] (cellsOf (flat [(false, [.bool])]) xs)) ∧ app (flat [(false, [.bool])]) (Q H) xs
abbrev fetterlocklaw6_BoolModelsMatchSpec.K (Q : AHeap → Bool → Prop) : Ex → Env → AHeap → Prop := kTop [.tm 6] (fetterlocklaw6_BoolModelsMatchSpec.KQ Q)
abbrev fetterlocklaw6_BoolModelsMatchSpec.k17 (Q : AHeap → Bool → Prop) : Ex → Env → AHeap → Prop := kSeq (fun t H => wpC Try.prog (.seq (.seq (.ops [.put 62 (.mov (.tm 2)),
    .put 63 (.cm .lt (.tm 62) (.ct (.one (.int .i64 0)))),
    .put 64 (.mov (.tm 63)),
    .gput 65 64 false (.mov (.tm 2)),
    .gput 66 64 false (.cm .gt (.tm 65) (.ct (.one (.int .i64 2000)))),
    .put 67 (.pick (.tm 64) (.ct (.one (.bool true))) (.tm 66))]) fetterlocklaw6_BoolModelsMatchSpec.c27) (.seq (.ops [.put 78 (.mov (.tm 10)),
    .put 79 (.cm .eq (.tm 78) (.ct (.one (.int .i64 0)))),
    .put 80 (.mov (.tm 79)),
    .gput 81 80 true (.mov (.tm 9)),
    .gput 82 80 true (.ld true [.ac, .int .i64] (.tm 3)),
    .gput 83 80 true (.mov (.tm 1)),
    .gput 84 80 true (.mov (.tm 2)),
    .gput 85 80 true (.call 27 [(.tm 82), (.tm 83), (.tm 84)]),
    .gput 86 80 true (.call 28 [(.tm 81), (.tm 85)]),
    .put 87 (.pick (.tm 80) (.tm 86) (.ct (.one (.bool false)))),
    .put 88 (.mov (.tm 87)),
    .gput 89 88 true (.call 19 []),
    .put 90 (.pick (.tm 88) (.tm 89) (.ct (.one (.bool false)))),
    .put 6 (.mov (.tm 90))]) .ret)) t H (fetterlocklaw6_BoolModelsMatchSpec.K Q)) (fetterlocklaw6_BoolModelsMatchSpec.K Q)
abbrev fetterlocklaw6_BoolModelsMatchSpec.k25 (Q : AHeap → Bool → Prop) : Ex → Env → AHeap → Prop := kSeq (fun t H => wpC Try.prog (.seq (.ops [.put 78 (.mov (.tm 10)),
    .put 79 (.cm .eq (.tm 78) (.ct (.one (.int .i64 0)))),
    .put 80 (.mov (.tm 79)),
    .gput 81 80 true (.mov (.tm 9)),
    .gput 82 80 true (.ld true [.ac, .int .i64] (.tm 3)),
    .gput 83 80 true (.mov (.tm 1)),
    .gput 84 80 true (.mov (.tm 2)),
    .gput 85 80 true (.call 27 [(.tm 82), (.tm 83), (.tm 84)]),
    .gput 86 80 true (.call 28 [(.tm 81), (.tm 85)]),
    .put 87 (.pick (.tm 80) (.tm 86) (.ct (.one (.bool false)))),
    .put 88 (.mov (.tm 87)),
    .gput 89 88 true (.call 19 []),
    .put 90 (.pick (.tm 88) (.tm 89) (.ct (.one (.bool false)))),
    .put 6 (.mov (.tm 90))]) .ret) t H (fetterlocklaw6_BoolModelsMatchSpec.K Q)) (fetterlocklaw6_BoolModelsMatchSpec.K Q)
def fetterlocklaw6_BoolModelsMatchSpec.p27 (Q : AHeap → Bool → Prop) (x1 : Int) (x2 : Int) (x3 : AC) (x9 : AC) (x10 : Int) (x67 : Bool) (H : AHeap) : Prop :=
  CondB x67
    (CondB (x10 == 1)
      (LenS x9 fun n_1 =>
      CondB (n_1 == 0)
        (Fn.fetterlocklaw6_built  H fun H_2 (v_3 : Bool) =>
        Q H_2 v_3)
        (Q H false))
      (Q H false))
    (CondB (x10 == 0)
      (Ld [.ac, .int .i64] H x3 fun (v_4 : AC) (v_5 : Int) =>
      Fn.fetterlockref6_Models v_4 v_5 x1 x2 H fun H_6 (v_7 : AC) =>
      Fn.fetterlocklaw6_sameLists x9 v_7 H_6 fun H_8 (v_9 : Bool) =>
      CondB v_9
        (Fn.fetterlocklaw6_built  H_8 fun H_10 (v_11 : Bool) =>
        Q H_10 v_11)
        (Q H_8 false))
      (Q H false))
def fetterlocklaw6_BoolModelsMatchSpec.p19 (Q : AHeap → Bool → Prop) (x1 : Int) (x2 : Int) (x3 : AC) (x9 : AC) (x10 : Int) (x61 : Bool) (H : AHeap) : Prop :=
  CondB x61
    (Q H false)
    (CondB (decide (x2 < 0))
      (fetterlocklaw6_BoolModelsMatchSpec.p27 Q x1 x2 x3 x9 x10 true H)
      (fetterlocklaw6_BoolModelsMatchSpec.p27 Q x1 x2 x3 x9 x10 (decide (x2 > 2000)) H))
def fetterlocklaw6_BoolModelsMatchSpec.W (a0_0 : AC) (a0_1 : Int) (a1 : Int) (a2 : Int) (H : AHeap) (Q : AHeap → Bool → Prop) : Prop :=
  New 27 [a0_0, (.int .i64 a0_1)] H fun p_1 H_2 =>
  Ld [.ac, .int .i64] H_2 p_1 fun (v_3 : AC) (v_4 : Int) =>
  Fn.solve_Count v_3 v_4 a1 H_2 fun H_5 (v_6 : Int) (v_7 : Int) =>
  Ld [.ac, .int .i64] H_5 p_1 fun (v_8 : AC) (v_9 : Int) =>
  Fn.solve_Models v_8 v_9 a1 a2 H_5 fun H_10 (v_11 : AC) (v_12 : Int) =>
  Ld [.ac, .int .i64] H_10 p_1 fun (v_13 : AC) (v_14 : Int) =>
  Fn.fetterlockref6_CountFault v_13 v_14 a1 H_10 fun H_15 (v_16 : Int) =>
  CondB (v_16 != 0)
    (CondB (v_7 == v_16)
      (CondB (v_12 == v_16)
        (CondB (v_6 == 0)
          (LenS v_11 fun n_17 =>
          CondB (n_17 == 0)
            (Fn.fetterlocklaw6_built  H_15 fun H_18 (v_19 : Bool) =>
            Q H_18 v_19)
            (Q H_15 false))
          (Q H_15 false))
        (Q H_15 false))
      (Q H_15 false))
    (CondB (v_7 != 0)
      (fetterlocklaw6_BoolModelsMatchSpec.p19 Q a1 a2 p_1 v_11 v_12 true H_15)
      (Ld [.ac, .int .i64] H_15 p_1 fun (v_20 : AC) (v_21 : Int) =>
      GE0 a1 <|
      Fn.fetterlockref6_Models v_20 v_21 a1 (shl .i64 1 a1) H_15 fun H_22 (v_23 : AC) =>
      LenS v_23 fun n_24 =>
      fetterlocklaw6_BoolModelsMatchSpec.p19 Q a1 a2 p_1 v_11 v_12 (v_6 != n_24) H_22))
theorem fetterlocklaw6_BoolModelsMatchSpec.p27_okE (Q : AHeap → Bool → Prop) {x1 : Int} {x2 : Int} {x3 : AC} {x9 : AC} {x10 : Int} {x67 : Bool} {H : AHeap} (j : Env) : fetterlocklaw6_BoolModelsMatchSpec.p27 Q x1 x2 x3 x9 x10 x67 H → wpC Try.prog fetterlocklaw6_BoolModelsMatchSpec.c27 (upd (upd (upd (upd (upd (upd j 1 (.one (.int .i64 x1))) 2 (.one (.int .i64 x2))) 3 (.one x3)) 9 (.one x9)) 10 (.one (.int .i64 x10))) 67 (.one (.bool x67))) H (fetterlocklaw6_BoolModelsMatchSpec.k25 Q) := c_if rfl (c_seq (c_ops (s_cons (w_put (o_mov rfl (s_cons (w_put (o_eq rfl rfl (s_cons (w_put (o_mov rfl (s_cons (w_gputT rfl (o_mov rfl (s_cons (w_gputY rfl (o_lens rfl (fun n_1 => s_cons (w_gputY rfl (o_eq rfl rfl (s_cons (w_put (o_pickT rfl rfl (s_cons (w_put (o_mov rfl (s_cons (w_gputT rfl (o_call rfl (cv_1 (fun H_2 (v_3 : Bool) => s_cons (w_put (o_pickT rfl rfl (s_cons (w_put (o_mov rfl (s_nil (k_seq (c_ret (k_seqR (k_topR (r_one rfl (r_nil (fun h => ⟨((v_3 : Bool), ()), rfl, h⟩)))))))))))))))) (s_cons (w_put (o_pickF rfl rfl (s_cons (w_put (o_mov rfl (s_nil (k_seq (c_ret (k_seqR (k_topR (r_one rfl (r_nil (fun h => ⟨((false : Bool), ()), rfl, h⟩))))))))))))))))))))))))))))) (s_cons (w_gputN rfl (s_cons (w_gputN rfl (s_cons (w_put (o_pickF rfl rfl (s_cons (w_put (o_mov rfl (s_cons (w_gputN rfl (s_cons (w_put (o_pickF rfl rfl (s_cons (w_put (o_mov rfl (s_nil (k_seq (c_ret (k_seqR (k_topR (r_one rfl (r_nil (fun h => ⟨((false : Bool), ()), rfl, h⟩))))))))))))))))))))))))))))))))))))))) (c_skip (k_seq (c_seq (c_ops (s_cons (w_put (o_mov rfl (s_cons (w_put (o_eq rfl rfl (s_cons (w_put (o_mov rfl (s_cons (w_gputT rfl (o_mov rfl (s_cons (w_gputY rfl (o_ld2 rfl (fun (v_4 : AC) (v_5 : Int) => s_cons (w_gputY rfl (o_mov rfl (s_cons (w_gputY rfl (o_mov rfl (s_cons (w_gputY rfl (o_call rfl (cv_1 (fun H_6 (v_7 : AC) => s_cons (w_gputY rfl (o_call rfl (cv_1 (fun H_8 (v_9 : Bool) => s_cons (w_put (o_pickT rfl rfl (s_cons (w_put (o_mov rfl (s_cons (w_gputT rfl (o_call rfl (cv_1 (fun H_10 (v_11 : Bool) => s_cons (w_put (o_pickT rfl rfl (s_cons (w_put (o_mov rfl (s_nil (k_seq (c_ret (k_topR (r_one rfl (r_nil (fun h => ⟨((v_11 : Bool), ()), rfl, h⟩))))))))))))))) (s_cons (w_put (o_pickF rfl rfl (s_cons (w_put (o_mov rfl (s_nil (k_seq (c_ret (k_topR (r_one rfl (r_nil (fun h => ⟨((false : Bool), ()), rfl, h⟩))))))))))))))))))))))))))))))))))))))) (s_cons (w_gputN rfl (s_cons (w_gputN rfl (s_cons (w_gputN rfl (s_cons (w_gputN rfl (s_cons (w_gputN rfl (s_cons (w_put (o_pickF rfl rfl (s_cons (w_put (o_mov rfl (s_cons (w_gputN rfl (s_cons (w_put (o_pickF rfl rfl (s_cons (w_put (o_mov rfl (s_nil (k_seq (c_ret (k_topR (r_one rfl (r_nil (fun h => ⟨((false : Bool), ()), rfl, h⟩))))))))))))))))))))))))))))))))))))))))))))))
theorem fetterlocklaw6_BoolModelsMatchSpec.p27_ok (Q : AHeap → Bool → Prop) {x1 : Int} {x2 : Int} {x3 : AC} {x9 : AC} {x10 : Int} {x67 : Bool} {H : AHeap} {t : Env} (h1 : t 1 = (.one (.int .i64 x1))) (h2 : t 2 = (.one (.int .i64 x2))) (h3 : t 3 = (.one x3)) (h9 : t 9 = (.one x9)) (h10 : t 10 = (.one (.int .i64 x10))) (h67 : t 67 = (.one (.bool x67))) (h : fetterlocklaw6_BoolModelsMatchSpec.p27 Q x1 x2 x3 x9 x10 x67 H) : wpC Try.prog fetterlocklaw6_BoolModelsMatchSpec.c27 t H (fetterlocklaw6_BoolModelsMatchSpec.k25 Q) := by
  have g := fetterlocklaw6_BoolModelsMatchSpec.p27_okE Q t h
  rw [upd_self h1] at g
  rw [upd_self h2] at g
  rw [upd_self h3] at g
  rw [upd_self h9] at g
  rw [upd_self h10] at g
  rw [upd_self h67] at g
  exact g
theorem fetterlocklaw6_BoolModelsMatchSpec.p19_okE (Q : AHeap → Bool → Prop) {x1 : Int} {x2 : Int} {x3 : AC} {x9 : AC} {x10 : Int} {x61 : Bool} {H : AHeap} (j : Env) : fetterlocklaw6_BoolModelsMatchSpec.p19 Q x1 x2 x3 x9 x10 x61 H → wpC Try.prog fetterlocklaw6_BoolModelsMatchSpec.c19 (upd (upd (upd (upd (upd (upd j 1 (.one (.int .i64 x1))) 2 (.one (.int .i64 x2))) 3 (.one x3)) 9 (.one x9)) 10 (.one (.int .i64 x10))) 61 (.one (.bool x61))) H (fetterlocklaw6_BoolModelsMatchSpec.k17 Q) := c_if rfl (c_seq (c_ops (s_cons (w_put (o_mov rfl (s_nil (k_seq (c_ret (k_seqR (k_topR (r_one rfl (r_nil (fun h => ⟨((false : Bool), ()), rfl, h⟩))))))))))))) (c_skip (k_seq (c_seq (c_seq (c_ops (s_cons (w_put (o_mov rfl (s_cons (w_put (o_lt rfl rfl (s_cons (w_put (o_mov rfl (s_cons (w_gputF rfl (s_cons (w_gputN rfl (s_cons (w_put (o_pickT rfl rfl (s_nil (k_seq (fetterlocklaw6_BoolModelsMatchSpec.p27_ok Q rfl rfl rfl rfl rfl rfl)))))))) (o_mov rfl (s_cons (w_gputY rfl (o_gt rfl rfl (s_cons (w_put (o_pickF rfl rfl (s_nil (k_seq (fetterlocklaw6_BoolModelsMatchSpec.p27_ok Q rfl rfl rfl rfl rfl rfl))))))))))))))))))))))))))
theorem fetterlocklaw6_BoolModelsMatchSpec.p19_ok (Q : AHeap → Bool → Prop) {x1 : Int} {x2 : Int} {x3 : AC} {x9 : AC} {x10 : Int} {x61 : Bool} {H : AHeap} {t : Env} (h1 : t 1 = (.one (.int .i64 x1))) (h2 : t 2 = (.one (.int .i64 x2))) (h3 : t 3 = (.one x3)) (h9 : t 9 = (.one x9)) (h10 : t 10 = (.one (.int .i64 x10))) (h61 : t 61 = (.one (.bool x61))) (h : fetterlocklaw6_BoolModelsMatchSpec.p19 Q x1 x2 x3 x9 x10 x61 H) : wpC Try.prog fetterlocklaw6_BoolModelsMatchSpec.c19 t H (fetterlocklaw6_BoolModelsMatchSpec.k17 Q) := by
  have g := fetterlocklaw6_BoolModelsMatchSpec.p19_okE Q t h
  rw [upd_self h1] at g
  rw [upd_self h2] at g
  rw [upd_self h3] at g
  rw [upd_self h9] at g
  rw [upd_self h10] at g
  rw [upd_self h61] at g
  exact g
theorem fetterlocklaw6_BoolModelsMatchSpec.ok {a0_0 : AC} {a0_1 : Int} {a1 : Int} {a2 : Int} {H : AHeap} (Q : AHeap → Bool → Prop) : fetterlocklaw6_BoolModelsMatchSpec.W a0_0 a0_1 a1 a2 H Q → wpF Try.prog fetterlocklaw6_BoolModelsMatchSpec.c [.tm 6] (envOf [(.agg [a0_0, (.int .i64 a0_1)]), (.one (.int .i64 a1)), (.one (.int .i64 a2))]) H (fetterlocklaw6_BoolModelsMatchSpec.KQ Q) := c_seq (c_ops (s_cons (w_put (o_box rfl (fun p_1 H_2 => s_cons (w_put (o_mov rfl (s_nil (k_seq (c_seq (c_ops (s_cons (w_put (o_ld2 rfl (fun (v_3 : AC) (v_4 : Int) => s_cons (w_put (o_mov rfl (s_cons (w_put (o_call rfl (cv_o1_o1 (fun H_5 (v_6 : Int) (v_7 : Int) => s_cons (w_put (o_mov rfl (s_cons (w_put (o_ex rfl rfl rfl (s_cons (w_put (o_ex rfl rfl rfl (s_cons (w_put (o_mov rfl (s_cons (w_put (o_mov rfl (s_nil (k_seq (c_seq (c_ops (s_cons (w_put (o_ld2 rfl (fun (v_8 : AC) (v_9 : Int) => s_cons (w_put (o_mov rfl (s_cons (w_put (o_mov rfl (s_cons (w_put (o_call rfl (cv_o1_o1 (fun H_10 (v_11 : AC) (v_12 : Int) => s_cons (w_put (o_mov rfl (s_cons (w_put (o_ex rfl rfl rfl (s_cons (w_put (o_ex rfl rfl rfl (s_cons (w_put (o_mov rfl (s_cons (w_put (o_mov rfl (s_nil (k_seq (c_seq (c_ops (s_cons (w_put (o_ld2 rfl (fun (v_13 : AC) (v_14 : Int) => s_cons (w_put (o_mov rfl (s_cons (w_put (o_call rfl (cv_1 (fun H_15 (v_16 : Int) => s_cons (w_put (o_mov rfl (s_nil (k_seq (c_seq (c_seq (c_ops (s_cons (w_put (o_mov rfl (s_cons (w_put (o_ne rfl rfl (s_nil (k_seq (c_if rfl (c_seq (c_ops (s_cons (w_put (o_mov rfl (s_cons (w_put (o_mov rfl (s_cons (w_put (o_eq rfl rfl (s_cons (w_put (o_mov rfl (s_cons (w_gputT rfl (o_mov rfl (s_cons (w_gputY rfl (o_mov rfl (s_cons (w_gputY rfl (o_eq rfl rfl (s_cons (w_put (o_pickT rfl rfl (s_cons (w_put (o_mov rfl (s_cons (w_gputT rfl (o_mov rfl (s_cons (w_gputY rfl (o_eq rfl rfl (s_cons (w_put (o_pickT rfl rfl (s_cons (w_put (o_mov rfl (s_cons (w_gputT rfl (o_mov rfl (s_cons (w_gputY rfl (o_lens rfl (fun n_17 => s_cons (w_gputY rfl (o_eq rfl rfl (s_cons (w_put (o_pickT rfl rfl (s_cons (w_put (o_mov rfl (s_cons (w_gputT rfl (o_call rfl (cv_1 (fun H_18 (v_19 : Bool) => s_cons (w_put (o_pickT rfl rfl (s_cons (w_put (o_mov rfl (s_nil (k_seq (c_ret (k_seqR (k_topR (r_one rfl (r_nil (fun h => ⟨((v_19 : Bool), ()), rfl, h⟩)))))))))))))))) (s_cons (w_put (o_pickF rfl rfl (s_cons (w_put (o_mov rfl (s_nil (k_seq (c_ret (k_seqR (k_topR (r_one rfl (r_nil (fun h => ⟨((false : Bool), ()), rfl, h⟩))))))))))))))))))))))))))))) (s_cons (w_gputN rfl (s_cons (w_gputN rfl (s_cons (w_put (o_pickF rfl rfl (s_cons (w_put (o_mov rfl (s_cons (w_gputN rfl (s_cons (w_put (o_pickF rfl rfl (s_cons (w_put (o_mov rfl (s_nil (k_seq (c_ret (k_seqR (k_topR (r_one rfl (r_nil (fun h => ⟨((false : Bool), ()), rfl, h⟩)))))))))))))))))))))))))))))))))))))) (s_cons (w_gputN rfl (s_cons (w_put (o_pickF rfl rfl (s_cons (w_put (o_mov rfl (s_cons (w_gputN rfl (s_cons (w_gputN rfl (s_cons (w_gputN rfl (s_cons (w_put (o_pickF rfl rfl (s_cons (w_put (o_mov rfl (s_cons (w_gputN rfl (s_cons (w_put (o_pickF rfl rfl (s_cons (w_put (o_mov rfl (s_nil (k_seq (c_ret (k_seqR (k_topR (r_one rfl (r_nil (fun h => ⟨((false : Bool), ()), rfl, h⟩))))))))))))))))))))))))))))))))))))))))))))))))))) (s_cons (w_gputN rfl (s_cons (w_gputN rfl (s_cons (w_put (o_pickF rfl rfl (s_cons (w_put (o_mov rfl (s_cons (w_gputN rfl (s_cons (w_gputN rfl (s_cons (w_put (o_pickF rfl rfl (s_cons (w_put (o_mov rfl (s_cons (w_gputN rfl (s_cons (w_gputN rfl (s_cons (w_gputN rfl (s_cons (w_put (o_pickF rfl rfl (s_cons (w_put (o_mov rfl (s_cons (w_gputN rfl (s_cons (w_put (o_pickF rfl rfl (s_cons (w_put (o_mov rfl (s_nil (k_seq (c_ret (k_seqR (k_topR (r_one rfl (r_nil (fun h => ⟨((false : Bool), ()), rfl, h⟩)))))))))))))))))))))))))))))))))))))))))))))))))))))))))))))))) (c_skip (k_seq (c_seq (c_seq (c_ops (s_cons (w_put (o_mov rfl (s_cons (w_put (o_ne rfl rfl (s_cons (w_put (o_mov rfl (s_cons (w_gputF rfl (s_cons (w_gputN rfl (s_cons (w_gputN rfl (s_cons (w_gputN rfl (s_cons (w_gputN rfl (s_cons (w_gputN rfl (s_cons (w_gputN rfl (s_cons (w_gputN rfl (s_cons (w_put (o_pickT rfl rfl (s_nil (k_seq (fetterlocklaw6_BoolModelsMatchSpec.p19_ok Q rfl rfl rfl rfl rfl rfl)))))))))))))))))))) (o_mov rfl (s_cons (w_gputY rfl (o_ld2 rfl (fun (v_20 : AC) (v_21 : Int) => s_cons (w_gputY rfl (o_mov rfl (s_cons (w_gputY rfl (o_mov rfl (s_cons (w_gputY rfl (o_shl rfl rfl (s_cons (w_gputY rfl (o_call rfl (cv_1 (fun H_22 (v_23 : AC) => s_cons (w_gputY rfl (o_lens rfl (fun n_24 => s_cons (w_gputY rfl (o_ne rfl rfl (s_cons (w_put (o_pickF rfl rfl (s_nil (k_seq (fetterlocklaw6_BoolModelsMatchSpec.p19_ok Q rfl rfl rfl rfl rfl rfl))))))))))))))))))))))))))))))))))))))))))))))))))))))))))))))))))))))))))))))))))))))))))))))))))))))))))))))))))))))))))))))))))))))))))))))))
theorem fetterlocklaw6_BoolModelsMatchSpec.slimOk : slimOk [(6, [])] (Try.f6.body.getD .skip) = true := by kernel_rfl
theorem fetterlocklaw6_BoolModelsMatchSpec.resC : resC Try.prog aggs Try.f6.ntmps (slim [(6, [])] (Try.f6.body.getD .skip)) = some fetterlocklaw6_BoolModelsMatchSpec.c := by kernel_rfl
theorem fetterlocklaw6_BoolModelsMatchSpec.resR : resR Try.prog Try.f6.results.toList = some [.tm 6] := by kernel_rfl
theorem fetterlocklaw6_BoolModelsMatchSpec.bodyEq : Try.f6.body = some (Try.f6.body.getD .skip) := by kernel_rfl
theorem fetterlocklaw6_BoolModelsMatchSpec.run {a0_0 : AC} {a0_1 : Int} {a1 : Int} {a2 : Int} {H : AHeap} {Q : AHeap → Bool → Prop} (h : fetterlocklaw6_BoolModelsMatchSpec.W a0_0 a0_1 a1 a2 H Q) : Fn.fetterlocklaw6_BoolModelsMatchSpec a0_0 a0_1 a1 a2 H Q := by
  unfold Fn.fetterlocklaw6_BoolModelsMatchSpec RunT
  exact run_of aggs_ok [(6, [])] Try.func6 fetterlocklaw6_BoolModelsMatchSpec.bodyEq fetterlocklaw6_BoolModelsMatchSpec.slimOk fetterlocklaw6_BoolModelsMatchSpec.resC fetterlocklaw6_BoolModelsMatchSpec.resR (Nat.le_of_ble_eq_true (by kernel_rfl)) (fetterlocklaw6_BoolModelsMatchSpec.ok Q h)

end Go.Proofs.Ytanaaabejeeakaa
end
section
/- Models; the laws of Count and Models. -/
namespace Go.Proofs.Ytanaaabejeeakaa
open Go.AI Go.AI.DT

/-- What is known where a number of variables is taken. -/
theorem vTree {l : List NRow} {r n : Int} (h : vFault l r n = 0) : ∃ (x : DT) (k : Nat), n = (k : Int) ∧ k ≤ 16 ∧ x.RO ∧ (ser x []).length ≤ 2000 ∧ l = rowsOf x ∧ r = ref (ser x []) x ∧ VarsLt k x ∧ ∀ ρ, dVal l r ρ = x.eval ρ := by
  unfold vFault at h
  split at h
  · next h1 => exact absurd h h1
  next h1 =>
  have h0 : dFault l r = 0 := by simpa using h1
  split at h
  · cases h
  next h2 =>
  obtain ⟨x, hx, hl, rfl, rfl, hv⟩ := dTree h0
  refine ⟨x, n.toNat, by omega, by omega, hx, hl, rfl, rfl, ?_, hv⟩
  have hseq := ser_seq x [] hx Seq.nil
  refine varsLt_of hseq.1 (fun v a b hm => ?_) x.sz x (Nat.le_refl _) (ser_in x [])
  have : ¬ n ≤ ((row (ser x []) (nd v a b)).1 : Int) := fun e => h2 (.inr (.inr ⟨_, List.mem_map_of_mem hm, e⟩))
  simp only [row] at this
  omega

theorem Count_e {s : AC} {l : List NRow} {r n : Int} {H : AHeap} (hs : SlR H s 3 (nodeRows l)) :
    Fn.solve_Count s r n H fun H' q e => Kp H H' ∧ e = vFault l r n ∧ (e ≠ 0 → q = 0) ∧ (e = 0 → q = (cnt n.toNat 0 (atR (bld l) r) : Int)) := by
  by_cases h0 : vFault l r n = 0
  · obtain ⟨x, k, rfl, hk, hx, hl, rfl, rfl, hvl, hv⟩ := vTree h0
    refine RunT.imp ?_ (Count_c (n := k) hx hs hl hk hvl)
    rintro H' (q : Int) (e : Int) ⟨rfl, rfl, kk⟩
    have : atR (bld (rowsOf x)) (ref (ser x []) x) = x := by
      unfold vFault at h0
      split at h0
      · next h1 => exact absurd h0 h1
      next h1 =>
      have hd : dFault (rowsOf x) (ref (ser x []) x) = 0 := by simpa using h1
      obtain ⟨_, h2⟩ := dFault_len hd
      exact canon' h2.of.2.2.2.1 hx hv
    rw [this, Int.toNat_natCast]
    exact ⟨kk, h0.symm, fun h => absurd rfl h, fun _ => rfl⟩
  · refine solve_Count.run ?_
    unfold solve_Count.W
    refine New.own fun b1 H1 hb1 hs1 o1 k1 => New.own fun b3 H3 hb3 hs3 o3 k3 => Ld.o2 (o1.kp k3) s r rfl (Ld.oi o3 rfl ?_)
    have kk := k1.trans k3
    refine RunT.imp ?_ (varsFault_c (hs.kp kk))
    rintro H4 q ⟨rfl, k4⟩
    exact CondB.pos (by simpa using h0) ⟨kk.trans k4, rfl, fun _ => rfl, fun h => absurd h h0⟩

theorem Models_e {s : AC} {l : List NRow} {r n most : Int} {H : AHeap} (hs : SlR H s 3 (nodeRows l)) :
    Fn.solve_Models s r n most H fun H' q e => Kp H H' ∧ ((vFault l r n ≠ 0 ∧ e = vFault l r n ∧ q = .sl none 0 0 (some 0)) ∨ (vFault l r n = 0 ∧ (most < 0 ∨ 2000 < most) ∧ e = 1 ∧ q = .sl none 0 0 (some 0)) ∨
      (vFault l r n = 0 ∧ 0 ≤ most ∧ most ≤ 2000 ∧ e = 0 ∧ ∃ Fo Gi, LL H' q Fo Gi ((mR n.toNat (atR (bld l) r).eval 0 (2 ^ n.toNat)).take most.toNat))) := by
  refine solve_Models.run ?_
  unfold solve_Models.W
  refine New.own fun b1 H1 hb1 hs1 o1 k1 => New.own fun b3 H3 hb3 hs3 o3 k3 => New.own fun b5 H5 hb5 hs5 o5 k5 => Ld.o2 ((o1.kp k3).kp k5) s r rfl (Ld.oi (o3.kp k5) rfl ?_)
  have kk := (k1.trans k3).trans k5
  refine RunT.imp ?_ (varsFault_c (hs.kp kk))
  rintro H6 (q : Int) ⟨rfl, k6⟩
  have kk6 := kk.trans k6
  refine CondB.ne (fun hne => ⟨kk6, .inl ⟨hne, rfl, rfl⟩⟩) fun h0 => ?_
  have o16 := ((o1.kp k3).kp k5).kp k6
  have o36 := (o3.kp k5).kp k6
  have o56 := o5.kp k6
  unfold solve_Models.p15
  refine Ld.oi o56 rfl (CondB.dec (fun h1 => CondB.pos rfl ⟨kk6, .inr (.inl ⟨h0, .inl h1, rfl, rfl⟩)⟩) fun h1 => Ld.oi o56 rfl (CondB.dec (fun h2 => ⟨kk6, .inr (.inl ⟨h0, .inr h2, rfl, rfl⟩)⟩) fun h2 => ?_))
  obtain ⟨x, k, rfl, hk, hx, hl, rfl, rfl, hvl, hv⟩ := vTree h0
  have hat : atR (bld (rowsOf x)) (ref (ser x []) x) = x := by
    unfold vFault at h0
    split at h0
    · next h1 => exact absurd h0 h1
    next h1 =>
    have hd : dFault (rowsOf x) (ref (ser x []) x) = 0 := by simpa using h1
    obtain ⟨_, h2⟩ := dFault_len hd
    exact canon' h2.of.2.2.2.1 hx hv
  rw [hat, Int.toNat_natCast]
  have hfin : Fin (ser x []) := (ser_seq x [] hx Seq.nil).1
  refine New.own fun b7 H7 hb7 hs7 o7 k7 => Ld.oi (o36.kp k7) rfl (MkS.own (n := k) (by omega) (by omega) fun b8 H8 hb8 hs8 o8 k8 => NewSto.own rfl fun b9 H9 hb9 hs9 o9 k9 => New.own fun b10 H10 hb10 hs10 o10 k10 => Fnc.mk rfl rfl ?_)
  refine Sto.own o10 (Nat.le_refl 1) fun H11 o11 k11 hs11 => Ld.oc o11 rfl ?_
  have z6 := kk6.size
  have k7_10 := ((k7.trans k8).trans k9).trans k10
  have e1 := o16.lt
  have e3 := o36.lt
  have e5 := o56.lt
  have z1 := k1.size
  have z3 := k3.size
  have z5 := k5.size
  have keep10 : ∀ {b : Nat} {cs : List AC}, Own H10 b cs → b ≠ b10 → Own H11 b cs := fun h hne => h.keep k11 hne
  have kk11 : Kp H H11 := (kk6.trans k7_10).fresh k11 fun y e => by have e' : y = b10 := e; omega
  have ms : MS H11 ⟨b7, b5, b3, b9, b1, b10, b8⟩ s (ref (ser x []) x) k most (fun _ => False) (fun _ => False) [] (List.replicate k 0) := by
    refine ⟨⟨_, keep10 (((o7.kp k8).kp k9).kp k10) (by show b7 ≠ b10; omega), LL.nil _⟩, keep10 (o56.kp k7_10) (by show b5 ≠ b10; omega), keep10 (o36.kp k7_10) (by show b3 ≠ b10; omega), keep10 (o9.kp k10) (by show b9 ≠ b10; omega), keep10 (o16.kp k7_10) (by show b1 ≠ b10; omega), o11, ?_, by rw [List.length_replicate], fun y h => h.elim False.elim False.elim, ?_, ?_⟩
    · rw [List.map_replicate]
      exact keep10 ((o8.kp k9).kp k10) (by show b8 ≠ b10; omega)
    · refine ⟨?_, ?_, ?_, ?_, ?_, ?_⟩ <;> dsimp only <;> omega
    · refine ⟨?_, ?_, ?_, ?_, ?_⟩ <;> dsimp only <;> omega
  refine FA.mk (Ld.oi (keep10 (o16.kp k7_10) (by omega)) rfl ?_)
  refine CVT.imp ?_ (CVT.mk lt59 (walk_m (H0 := H) (p := ⟨b7, b5, b3, b9, b1, b10, b8⟩) hk hs hfin (by omega) (by omega) (fun y hy => ?_) k 0 0 x (by omega) (by omega) (ser_in x []) hx hvl (by omega) ms (Kp.old kk11) (fun y h => h.elim) (by simp; omega) (by simp)))
  · rintro H12 ⟨Fo, Gi, cs, ms12, _, k12, fr⟩
    obtain ⟨out, oo, ll⟩ := ms12.o1
    refine Ld.oc oo rfl ⟨kk11.fresh k12 fun y e => ?_, .inr (.inr ⟨h0, by omega, by omega, rfl, Fo, Gi, ?_⟩)⟩
    · rcases e with e | e | e
      · have e' : y = b7 := e; omega
      · have e' : y = b8 := e; omega
      · exact e.elim
    · simpa using ll
  · have z7 := k7.size
    rcases hy with e | e | e | e | e | e | e
    · have e' : y = b7 := e; omega
    · have e' : y = b5 := e; omega
    · have e' : y = b3 := e; omega
    · have e' : y = b9 := e; omega
    · have e' : y = b1 := e; omega
    · have e' : y = b10 := e; omega
    · have e' : y = b8 := e; omega

theorem mR_len (n : Nat) (g : (Nat → Bool) → Bool) (a k : Nat) : (mR n g a k).length ≤ k := by
  unfold mR
  rw [List.length_map]
  exact Nat.le_trans (List.length_filter_le _ _) (by simp)
theorem mR_in {n : Nat} {g : (Nat → Bool) → Bool} {a k : Nat} {l : List Int} (h : l ∈ mR n g a k) : l.length = n := by
  unfold mR at h
  obtain ⟨i, _, rfl⟩ := List.mem_map.1 h
  exact bitsL_len n i
theorem shl_pow {k : Nat} (hk : k ≤ 16) : shl .i64 1 (k : Int) = ((2 ^ k : Nat) : Int) := by
  have hp16 : 2 ^ k ≤ 65536 := pow2_lt hk
  have := shl_nat (x := 1) (v := k) (by omega) (by rw [Nat.shiftLeft_eq, Nat.one_mul]; omega)
  rw [Nat.shiftLeft_eq, Nat.one_mul] at this
  exact this

theorem law4_c {s : AC} {l : List NRow} {r n most : Int} {H : AHeap} (hs : SlR H s 3 (nodeRows l)) :
    Fn.fetterlocklaw6_BoolModelsMatchSpec s r n most H fun H' q => q = true ∧ Kp H H' := by
  refine fetterlocklaw6_BoolModelsMatchSpec.run ?_
  unfold fetterlocklaw6_BoolModelsMatchSpec.W
  refine New.own fun b1 H1 hb1 hs1 o1 k1 => Ld.o2 o1 s r rfl (RunT.imp ?_ (Count_e (hs.kp k1)))
  rintro H2 (cn : Int) (e : Int) ⟨k2, he, hc1, hc2⟩
  have kk2 := k1.trans k2
  refine Ld.o2 (o1.kp k2) s r rfl (RunT.imp ?_ (Models_e (hs.kp kk2)))
  rintro H3 (ml : AC) (f : Int) ⟨k3, hm⟩
  have kk3 := kk2.trans k3
  refine Ld.o2 ((o1.kp k2).kp k3) s r rfl (RunT.imp ?_ (CountFault_c (hs.kp kk3)))
  rintro H4 (bad : Int) ⟨rfl, k4⟩
  have kk4 := kk3.trans k4
  refine CondB.ne (fun hne => ?_) fun h0 => ?_
  · rcases hm with ⟨_, hf, hq⟩ | ⟨h, _⟩ | ⟨h, _⟩
    · subst hq hf
      refine CondB.pos (by rw [he]; simp) (CondB.pos (by simp) (CondB.pos (by rw [hc1 (by omega)]; rfl) (LenS.mk (CondB.pos rfl (RunT.imp ?_ built_c)))))
      rintro H5 q ⟨rfl, k5⟩
      exact ⟨rfl, kk4.trans k5⟩
    · exact absurd h hne
    · exact absurd h hne
  · have he0 : e = 0 := he.trans h0
    obtain ⟨x, k, rfl, hk, hx, hl, rfl, rfl, hvl, hv⟩ := vTree h0
    have hat : atR (bld (rowsOf x)) (ref (ser x []) x) = x := by
      unfold vFault at h0
      split at h0
      · next h1 => exact absurd h0 h1
      next h1 =>
      have hd : dFault (rowsOf x) (ref (ser x []) x) = 0 := by simpa using h1
      obtain ⟨_, h2⟩ := dFault_len hd
      exact canon' h2.of.2.2.2.1 hx hv
    rw [hat, Int.toNat_natCast] at hm
    have hc := hc2 he0
    rw [hat, Int.toNat_natCast] at hc
    have hp16 : 2 ^ k ≤ 65536 := pow2_lt hk
    refine CondB.neg (by rw [he0]; rfl) (Ld.o2 (((o1.kp k2).kp k3).kp k4) s (ref (ser x []) x) rfl (GE0.mk (by omega) ?_))
    rw [shl_pow hk]
    refine RunT.imp ?_ (rModels_c hx (hs.kp kk4) hk (Int.natCast_nonneg _))
    rintro H5 (ra : AC) ⟨⟨Fo, Gi, hra⟩, k5⟩
    have kk5 := kk4.trans k5
    refine hra.len ?_
    have hlen : ((mR k x.eval 0 (2 ^ k)).take ((2 ^ k : Nat) : Int).toNat).length = cnt k 0 x := by
      rw [Int.toNat_natCast, List.take_of_length_le (mR_len k x.eval 0 (2 ^ k))]
      have := cnt_mR hk k 0 0 x (by omega) (by omega) hx hvl (by omega)
      rwa [Nat.zero_mul, Nat.sub_zero] at this
    rw [hlen, hc]
    have o15 := (((o1.kp k2).kp k3).kp k4).kp k5
    have fin : ∀ bb, (bb = true ↔ (most < 0 ∨ 2000 < most)) → fetterlocklaw6_BoolModelsMatchSpec.p27 (fun H' q => q = true ∧ Kp H H') (k : Int) most (.ptr (some (b1, 0))) ml f bb H5 := by
      intro bb hbb
      unfold fetterlocklaw6_BoolModelsMatchSpec.p27
      refine CondB.mk (fun h => ?_) fun h => ?_
      · have hmost := hbb.1 h
        rcases hm with ⟨h, _⟩ | ⟨_, _, rfl, rfl⟩ | ⟨_, h1, h2, _⟩
        · exact absurd h0 h
        · refine CondB.pos rfl (LenS.mk (CondB.pos rfl (RunT.imp ?_ built_c)))
          rintro H6 q ⟨rfl, k6⟩
          exact ⟨rfl, kk5.trans k6⟩
        · omega
      · have hmost : ¬ (most < 0 ∨ 2000 < most) := fun e => by rw [hbb.2 e] at h; cases h
        rcases hm with ⟨h, _⟩ | ⟨_, h1, _⟩ | ⟨_, h1, h2, rfl, Fo1, Gi1, hll⟩
        · exact absurd h0 h
        · exact absurd h1 hmost
        · refine CondB.pos rfl (Ld.o2 o15 s (ref (ser x []) x) rfl (RunT.imp ?_ (rModels_c hx (hs.kp kk5) hk h1)))
          rintro H6 (rb : AC) ⟨⟨Fo2, Gi2, hrb⟩, k6⟩
          have hl1 := mR_len k x.eval 0 (2 ^ k)
          refine RunT.imp ?_ (sameLists_c (((hll.kp k4).kp k5).kp k6) hrb (by rw [List.length_take]; omega) fun l hl => ?_)
          · rintro H7 (q : Bool) ⟨e7, rfl⟩
            obtain rfl : H6 = H7 := e7.symm
            refine CondB.pos rfl (RunT.imp ?_ built_c)
            rintro H8 q ⟨rfl, k8⟩
            exact ⟨rfl, (kk5.trans k6).trans k8⟩
          · have := mR_in (List.mem_of_mem_take hl)
            omega
    unfold fetterlocklaw6_BoolModelsMatchSpec.p19
    refine CondB.neg (by simp) (CondB.dec (fun h1 => fin true (by simp [h1])) fun h1 => fin _ ?_)
    rw [decide_eq_true_iff]
    constructor
    · exact fun h => .inr h
    · rintro (h | h)
      · exact absurd h h1
      · exact h

end Go.Proofs.Ytanaaabejeeakaa
end
