/- The judgement's rules for loops that range over a function. -/
import Derived.Test.YtlcdafeoionnhaaStr
import Derived.RangeFuncNested
namespace Go.Proofs.Ytlcdafeoionnhaa
open Go
set_option linter.unusedSimpArgs false
set_option linter.unusedVariables false

/-! ### Marks among the deferred calls -/
def marks (bs : List Nat) : List Deferred := bs.map fun b => { target := .collected b, args := #[] }
def mks (bs : List Nat) : HP := fun h => Sat (bs.map fun b => blk b (.deferred (some []))) h
theorem unmark {P : Program} {I k : Hp} {L : List HP} : ∀ (bs : List Nat) (w : World) (h : Hp), Sat (bs.map (fun b => blk b (.deferred (some []))) ++ L) h → Rel I h k w →
    ∃ w' h', Sat L h' ∧ Rel I h' k w' ∧ Os w w' ∧ ∀ (fr : Frame) (cs : List Frame), fr.mode = .returning → fr.defers = marks bs → Steps P (lone fr cs w) (lone { fr with defers := [] } cs w') := by
  intro bs
  induction bs with
  | nil => intro w h hS hR; exact ⟨w, h, hS, hR, .refl _, fun fr cs _ hd => by
      have : ({ fr with defers := [] } : Frame) = fr := by cases fr; simp only [marks, List.map_nil] at hd; subst hd; rfl
      rw [this]; exact Steps.refl _ _⟩
  | cons b bs ih =>
    intro w h hS hR
    obtain ⟨hb, h1, h2, l1, l2, d, hb1, hS2⟩ := Sat.write hS (.deferred none)
    have hw := hR.hon _ _ hb
    have hR2 : Rel I (h.set b (.deferred none)) k (w.putObj b (.deferred none)) := hR.obj hb
    obtain ⟨w', h', a1, a2, a3, a4⟩ := ih (w.putObj b (.deferred none)) _ (hS2.mono l2) hR2
    refine ⟨w', h', a1, a2, ⟨a3.os, a3.tape, a3.output⟩, fun fr cs hm hd => ?_⟩
    have hst := step_collected (P := P) (fr := fr) (cs := cs) (w := w) (r := b) (ds := marks bs) (d := { target := .collected b, args := #[] }) (by rw [hm]; simp) hd rfl (run_takeDeferred hw)
    exact .head hst (a4 { fr with defers := [] ++ marks bs } cs hm rfl)
theorem Sat.marks {bs : List Nat} {L : List HP} {h : Hp} (s : Sat (mks bs :: L) h) : Sat (bs.map (fun b => blk b (.deferred (some []))) ++ L) h := by
  obtain ⟨h1, h2, a, b, c, d, e⟩ := s
  exact Sat.join a b c d e
section
variable {c : Cx} {K : List Item} {E : List (Nat × Value)} {D : List Deferred} {I : Hp} {L : List HP} {fn : Func}
theorem JJ.retWM {todo : List Item} {bs : List Nat} {l : List ResultVar} {vs : List Value} (hro : c.ro = none) (hf : c.P.funcs[c.f]? = some fn) (hl : fn.results = l.toArray)
    (ht : ∀ (a : Act) (cs : List Frame) (w : World), ∃ td, Steps c.P (lone (fram c.f none todo a) cs w) (lone { fram c.f none td a with mode := .returning } cs w))
    (hr : ∀ a w h k D, Env c.N a E D → Sat L h → Rel I h k w → ResAt c.P w a.tmps l vs) (hp : ∀ h, Sat L h → c.R (resV vs) I h) : JJ c todo E (marks bs) I (mks bs :: L) := by
  intro a w h k hE hS hR cs _
  rw [hro]
  obtain ⟨td, st⟩ := ht a cs w
  obtain ⟨w', h', a1, a2, a3, a4⟩ := unmark (P := c.P) bs w h hS.marks hR
  have st2 := a4 { fram c.f none td a with mode := .returning } cs rfl hE.dfs
  exact ⟨resV vs, w', _, ⟨I, h', .refl _, a2, a3, hp h' a1⟩, Steps.trans st st2, rfl, rfl, rfl, rfl, fn, hf, results_run hl (hr a w' h' k _ hE a1 a2)⟩
theorem JJ.ret0m {bs : List Nat} (hro : c.ro = none) (hf : c.P.funcs[c.f]? = some fn) (hl : fn.results = #[]) (hp : ∀ h, Sat L h → c.R (.tuple #[]) I h) : JJ c (.code .ret :: K) E (marks bs) I (mks bs :: L) :=
  JJ.retWM (l := []) (vs := []) hro hf hl ret_steps (fun _ _ _ _ _ _ _ _ => trivial) hp
theorem JJ.end0m {bs : List Nat} (hro : c.ro = none) (hf : c.P.funcs[c.f]? = some fn) (hl : fn.results = #[]) (hp : ∀ h, Sat L h → c.R (.tuple #[]) I h) : JJ c [] E (marks bs) I (mks bs :: L) :=
  JJ.retWM (l := []) (vs := []) hro hf hl end_steps (fun _ _ _ _ _ _ _ _ => trivial) hp
theorem JJ.ret1m {bs : List Nat} {t : Nat} {v : Value} (hro : c.ro = none) (hf : c.P.funcs[c.f]? = some fn) (hl : fn.results = #[.tmp t]) (hv : get E t = some v) (hp : ∀ h, Sat L h → c.R v I h) : JJ c (.code .ret :: K) E (marks bs) I (mks bs :: L) :=
  JJ.retWM (l := [.tmp t]) (vs := [v]) hro hf hl ret_steps (fun _ _ _ _ _ hE _ _ => ⟨hE.vals _ _ hv, trivial⟩) hp
theorem JJ.marks0 (h : JJ c K E (marks []) I (mks [] :: L)) : JJ c K E [] I L :=
  JJ.res (L' := mks [] :: L) (fun h s => ⟨fun _ => none, h, fun _ _ x => (by cases x), .refl _, fun _ => .inl rfl, trivial, s⟩) h
end

theorem Sat.rot {A B : List HP} {h : Hp} (s : Sat (A ++ B) h) : Sat (B ++ A) h := Sat.perm List.perm_append_comm s
/-- A loop, by induction on a measure, its deferred calls among what is known. -/
theorem JJ.inductD {X : Type} {c : Cx} {K : List Item} {E0 : List (Nat × Value)} {D0 : List Deferred} {I0 : Hp} {L0 : List HP} {body : Code} (E : X → List (Nat × Value)) (D : X → List Deferred) (I : X → Hp) (L : X → List HP) (Inv : X → Prop) (μ : X → Nat) (x0 : X) (h0 : Inv x0)
    (enter : JJ c (.code body :: .inLoop body :: K) (E x0) (D x0) (I x0) (L x0) → JJ c (.code body :: .inLoop body :: K) E0 D0 I0 L0)
    (round : ∀ x, Inv x → (∀ y, Inv y → μ y < μ x → JJ c (.inLoop body :: K) (E y) (D y) (I y) (L y)) → JJ c (.code body :: .inLoop body :: K) (E x) (D x) (I x) (L x)) : JJ c (.code (.loop body) :: K) E0 D0 I0 L0 := by
  refine JJ.loop (enter ?_)
  have key : ∀ n x, μ x = n → Inv x → JJ c (.code body :: .inLoop body :: K) (E x) (D x) (I x) (L x) := by
    intro n
    induction n using Nat.strongRecOn with
    | _ n ih => exact fun x hn hx => round x hx fun y hy hlt => JJ.inLoop (ih (μ y) (hn ▸ hlt) y rfl hy)
  exact key _ x0 rfl h0
/-! ### The loop's record, and yield -/
def lrec (l : Nat) (fn : FuncId) (N : Nat) (E : List (Nat × Value)) (ps : Array Tmp) (asg body : Code) (st : LoopState) (pend : Option Code) : HP := fun h =>
  ∃ tmps D, Env N { tmps, defers := [] } E [] ∧ h l = some (.loop { state := st, pending := pend, fn, tmps, params := ps, assign := asg, body, defers := D })
/-- A call of yield: a round. -/
def Yl (P : Program) (l : Nat) (vs : List Value) (I : Hp) (L : List HP) (R : Value → Hp → HP) : Prop :=
  ∀ w h k, Sat L h → Rel I h k w → ∃ fn tmps asg body, (Instr.yield l vs.toArray).run P w = .ok (.round l fn tmps asg body) w ∧
    ∀ (c : Frame) (cs : List Frame), ∃ v w', Post I k w R v w' ∧ Steps P (lone (Frame.round l fn tmps asg body .normal) (c :: cs) w) (lone (c.finish v) cs w')
/-- The rounds of a loop: s: the state; st: what a round makes of it, and whether the loop goes on. -/
def Rounds (P : Program) (l : Nat) {S α : Type} (Re : Hp → List Value → α → Prop) (Φ : S → Hp → Prop) (Y : S → Bool → List HP) (st : S → α → S → Bool → Prop) (ok : S → α → Prop) (I : Hp) : Prop :=
  (∀ s I1 I2, Hp.le I1 I2 → Φ s I1 → Φ s I2) ∧ ∀ s I1 vs d, I.le I1 → ok s d → Φ s I1 → Re I1 vs d → Yl P l vs I1 (Y s true) (Ret (X := S × Bool) (fun p I2 => st s d p.1 p.2 ∧ Φ p.1 I2) (fun p => .bool p.2) (fun p => Y p.1 p.2))
inductive Runs {S α : Type} (st : S → α → S → Bool → Prop) : S → List α → S → Bool → Prop
  | nil {s} : Runs st s [] s true
  | stop {s a s' l} : st s a s' false → Runs st s (a :: l) s' false
  | go {s a s1 l s' b} : st s a s1 true → Runs st s1 l s' b → Runs st s (a :: l) s' b
theorem Runs.append {S α : Type} {st : S → α → S → Bool → Prop} {l m : List α} {s s1 s' : S} {b : Bool} (h : Runs st s l s1 true) (k : Runs st s1 m s' b) : Runs st s (l ++ m) s' b := by
  generalize ht : true = t at h
  induction h with
  | nil => exact k
  | stop _ => cases ht
  | go a _ ih => exact .go a (ih k ht)
theorem Runs.stops {S α : Type} {st : S → α → S → Bool → Prop} {l m : List α} {s s' : S} (h : Runs st s l s' false) : Runs st s (l ++ m) s' false := by
  generalize ht : false = t at h
  induction h with
  | nil => cases ht
  | stop a => exact .stop a
  | go a _ ih => exact .go a (ih ht)
/-- A function that is ranged over: what it yields. -/
def Iter (P : Program) (f : FuncId) (args : Value → Array Value) (I : Hp) {α : Type} (Re : Hp → List Value → α → Prop) (xs : List α) : Prop :=
  ∀ (S : Type) (l : Nat) (Φ : S → Hp → Prop) (Y : S → Bool → List HP) (st : S → α → S → Bool → Prop) (I1 : Hp) (s : S), I.le I1 → Rounds P l Re Φ Y st (fun s' d => ∃ pre post, xs = pre ++ d :: post ∧ Runs st s pre s' true) I1 → Φ s I1 →
    Fn P f (args (.func (.yield l) #[] #[])) I1 (Y s true) (Ret (X := Value × S × Bool) (fun x I2 => Runs st s xs x.2.1 x.2.2 ∧ Φ x.2.1 I2) (fun x => x.1) (fun x => Y x.2.1 x.2.2))
/-- A property that stays. -/
def Up (p : Hp → Prop) (I : Hp) : Prop := ∀ I2, Hp.le I I2 → p I2
theorem Up.mono {p : Hp → Prop} {I I' : Hp} (h : Up p I) (l : I.le I') : Up p I' := fun I2 l2 => h I2 (l.trans l2)
theorem Up.now {p : Hp → Prop} {I : Hp} (h : Up p I) : p I := h I (.refl _)
theorem Iter.mono {P : Program} {f : FuncId} {args : Value → Array Value} {I I' : Hp} {α : Type} {Re : Hp → List Value → α → Prop} {xs : List α} (h : Iter P f args I Re xs) (l : I.le I') : Iter P f args I' Re xs :=
  fun S q Φ Y st I1 s le => h S q Φ Y st I1 s (l.trans le)
/-- An iterator's elements, said more weakly. -/
theorem Iter.weak {P : Program} {f : FuncId} {args : Value → Array Value} {I : Hp} {α : Type} {Re Re' : Hp → List Value → α → Prop} {xs : List α} (h : Iter P f args I Re xs) (k : ∀ I vs d, Re I vs d → Re' I vs d) : Iter P f args I Re' xs :=
  fun S q Φ Y st I1 s le hr => h S q Φ Y st I1 s le ⟨hr.1, fun s I1 vs d a b c e => hr.2 s I1 vs d a b c (k _ _ _ e)⟩
def pE : List Nat → List Value → List (Nat × Value) → List (Nat × Value)
  | p :: ps, v :: vs, E => pE ps vs ((p, v) :: E)
  | _, _, E => E
theorem Env.pE {N : Nat} : ∀ (ps : List Nat) (vs : List Value) (tmps : Array Value) (E : List (Nat × Value)), ps.all (Nat.blt · N) = true → Env N { tmps, defers := [] } E [] →
    Env N { tmps := (ps.zip vs).foldl (fun tmps (p : Nat × Value) => tmps.setIfInBounds p.1 p.2) tmps, defers := [] } (Go.Proofs.Ytlcdafeoionnhaa.pE ps vs E) []
  | [], _, _, _, _, h => h
  | _ :: _, [], _, _, _, h => h
  | p :: ps, v :: vs, tmps, E, hp, h => by
    simp only [List.all_cons, Bool.and_eq_true] at hp
    simp only [List.zip_cons_cons, List.foldl_cons, Go.Proofs.Ytlcdafeoionnhaa.pE]
    exact Env.pE ps vs _ _ hp.2 (h.put hp.1 v)
section
variable {c : Cx} {K : List Item} {E : List (Nat × Value)} {D : List Deferred} {I : Hp} {L : List HP} {ops : Array Oper} {i : Nat} {is : List Nat}
variable {dst : Option Nat} {ty : TypeId} {pos : String} {aft : Array Edge} {gd : Option (Nat × Bool)}
theorem JJ.callY {X : Type} {Φ : X → Hp → Prop} {V : X → Value} {LX : X → List HP} {fo : Operand} {args : Array Operand} {tys : Array TypeId} {l : Nat} {vs : List Value} {Lc Lr : List HP} (rg : Reg c.N ops)
    (ho : ops[i]? = some ⟨dst, .call ⟨.value fo, args, tys⟩, ty, pos, aft, gd⟩) (hg : wants ops E gd = some true) (hf : evE E fo = some (.func (.yield l) #[] #[])) (ha : evL E args.toList = some vs)
    (hfn : Yl c.P l vs I Lc (Ret Φ V LX)) (hL : ∀ h, Sat L h → Sat (Lc ++ Lr) h)
    (hJ : ∀ x I', I.le I' → Φ x I' → JJ c (.inRegion ops is :: K) (putE dst (V x) E) D I' (LX x ++ Lr)) : JJ c (.inRegion ops (i :: is) :: K) E D I L := by
  intro a w h k hE hS hR
  obtain ⟨h1, h2, l1, l2, d, s1, s2⟩ := (hL h hS).split
  have hR1 : Rel I h1 (h2.add k) w := ⟨hR.Ion, hR.hon.mono l1, Hp.add_on (hR.hon.mono l2) hR.kon, hR.Ih.mono (.refl _) l1, (Hp.add_dj (hR.Ih.mono (.refl _) l2).symm hR.Ik.symm).symm, (Hp.add_dj d.symm (hR.hk.mono l1 (.refl _)).symm).symm⟩
  obtain ⟨fn, tmps, asg, body, hy, hst0⟩ := hfn w h1 (h2.add k) s1 hR1
  have hrun : (execOp a.eval ⟨dst, .call ⟨.value fo, args, tys⟩, ty, pos, aft, gd⟩).run c.P w = .ok (.round l fn tmps asg body) w := by
    have hargs : args.map a.eval = vs.toArray := by rw [← hE.evL ha]; apply Array.ext'; rw [Array.toList_map]
    simp [execOp, resolve, hE.ev hf, Deferred.ofValue, invoke, hargs, hy]
  intro css hcs
  obtain ⟨v, w', ⟨I', h', hle, hR', hos, x, hx, rfl, hSx⟩, hst1⟩ := hst0 (fram c.f c.ro (.inRegion ops (i :: is) :: K) a) css
  have hst : Steps c.P (lone (fram c.f c.ro (.inRegion ops (i :: is) :: K) a) css w) (lone (fram c.f c.ro (.inRegion ops is :: K) (a.put dst (V x))) css w') := by
    refine Steps.head (m₁ := lone (Frame.round l fn tmps asg body .normal) (fram c.f c.ro (.inRegion ops (i :: is) :: K) a :: css) w) ?_ ?_
    · refine step_lone_go ?_
      rw [fram_eq]
      have hgg := stepGR_op (P := c.P) (b := { (default : Frame) with fn := c.f, kind := .normal, roundOf := c.ro }) (a := a) (k := K) (cs := css) (w := w) (rest := is) ho (wants_true hE (okR_lt rg.ok) hg)
      rw [hgg, Oper.semAt_eq _ _ _ (fun _ e => by cases e)]
      simp [stepG.apply, hrun, Frame.atR]
    · have : (fram c.f c.ro (.inRegion ops (i :: is) :: K) a).finish (V x) = fram c.f c.ro (.inRegion ops is :: K) (a.put dst (V x)) := by
        rw [fram_eq, fram_eq, Frame.finish_atR, ho]; rfl
      rw [← this]; exact hst1
  have le2 : Hp.le h2 (h2.add k) := Hp.le_add _ _
  have lek : Hp.le k (h2.add k) := Hp.le_add' (hR.hk.mono l2 (.refl _))
  have d2 : Hp.dj h' h2 := hR'.hk.mono (.refl _) le2
  have hR2 : Rel I' (h'.add h2) k w' := ⟨hR'.Ion, Hp.add_on hR'.hon (hR'.kon.mono le2), hR'.kon.mono lek, (Hp.add_dj hR'.Ih.symm (hR'.Ik.mono (.refl _) le2).symm).symm, hR'.Ik.mono (.refl _) lek, Hp.add_dj (hR'.hk.mono (.refl _) lek) (hR.hk.mono l2 (.refl _))⟩
  have hS2 : Sat (LX x ++ Lr) (h'.add h2) := Sat.join (Hp.le_add _ _) (Hp.le_add' d2) d2 hSx s2
  exact (Fin.steps hst (hJ x I' hle hx _ w' (h'.add h2) k (hE.putE (okR_ok rg.ok ho) _) hS2 hR2 css hcs)).mono fun v w'' p => p.later hle hos
/-! ### Within a round -/
theorem JJ.beginRound {l : Nat} {fn : FuncId} {N : Nat} {E0 : List (Nat × Value)} {ps : Array Tmp} {asg body : Code} {pend : Option Code} (hro : c.ro = some l)
    (h : JJ c K E D I (lrec l fn N E0 ps asg body .busy pend :: L)) : JJ c (.beginRound :: K) E D I (lrec l fn N E0 ps asg body .ready pend :: L) := by
  refine JJ.turn (X := Unit) (E' := fun _ => E) (D' := fun _ => D) (I' := fun _ => I) (L' := fun _ => lrec l fn N E0 ps asg body .busy pend :: L) (fun _ => True) (fun a w hh k hE hS hR => ?_) fun _ _ => h
  obtain ⟨h1, h2, l1, l2, d, ⟨tmps, D0, henv, hl⟩, hS2⟩ := hS
  have hw := hR.hon _ _ (l1 _ _ hl)
  have hbr := run_beginRound (P := c.P) hw rfl
  obtain ⟨_, h3, h4, a3, a4, a5, a6, a7⟩ := Sat.write (L := L) (b := l) (h := hh) ⟨h1, h2, l1, l2, d, hl, hS2⟩ (.loop { state := .busy, pending := pend, fn, tmps, params := ps, assign := asg, body, defers := D0 })
  refine ⟨(), a, _, hh.set l _, trivial, hE, ⟨h3, h4, a3, a4, a5, ⟨tmps, D0, henv, a6⟩, a7⟩, hR.obj (l1 _ _ hl), .refl _, ⟨rfl, rfl, rfl⟩, fun cs => .one ?_⟩
  rw [fram_eq, fram_eq]
  exact stepR_beginRound (by simp [hro]) hbr
theorem JJ.endW {todo : List Item} {l : Nat} {fn : FuncId} {N : Nat} {E0 : List (Nat × Value)} {ps : Array Tmp} {asg body : Code} {st : LoopState} {pend jump : Option Code} (hro : c.ro = some l)
    (ht : ∀ (a : Act) (cs : List Frame) (cc : Frame) (w w' : World) (v : Value), (Instr.endRound l jump).run c.P w = .ok v w' → Steps c.P (lone (fram c.f (some l) todo a) (cc :: cs) w) (lone (cc.finish v) cs w'))
    (hp : ∀ h, Sat (lrec l fn N E0 ps asg body (if jump.isNone then .ready else .done) jump :: L) h → c.R (.bool jump.isNone) I h) : JJ c todo E D I (lrec l fn N E0 ps asg body st pend :: L) := by
  intro a w hh k hE hS hR cs hcs
  rw [hro] at hcs ⊢
  cases cs with
  | nil => exact absurd rfl (hcs rfl)
  | cons cc cs =>
    obtain ⟨h1, h2, l1, l2, d, ⟨tmps, D0, henv, hl⟩, hS2⟩ := hS
    have hw := hR.hon _ _ (l1 _ _ hl)
    have hbr := run_endRound (P := c.P) jump hw
    obtain ⟨_, h3, h4, a3, a4, a5, a6, a7⟩ := Sat.write (L := L) (b := l) (h := hh) ⟨h1, h2, l1, l2, d, hl, hS2⟩ (.loop { state := if jump.isNone then .ready else .done, pending := jump, fn, tmps, params := ps, assign := asg, body, defers := D0 })
    exact ⟨.bool jump.isNone, _, ⟨I, hh.set l _, .refl _, hR.obj (l1 _ _ hl), ⟨rfl, rfl, rfl⟩, hp _ ⟨h3, h4, a3, a4, a5, ⟨tmps, D0, henv, a6⟩, a7⟩⟩, cc, cs, rfl, ht a cs cc w _ _ hbr⟩
theorem JJ.roundEnd {l : Nat} {fn : FuncId} {N : Nat} {E0 : List (Nat × Value)} {ps : Array Tmp} {asg body : Code} {st : LoopState} {pend : Option Code} (hro : c.ro = some l)
    (hp : ∀ h, Sat (lrec l fn N E0 ps asg body .ready none :: L) h → c.R (.bool true) I h) : JJ c [] E D I (lrec l fn N E0 ps asg body st pend :: L) :=
  JJ.endW (jump := none) hro (fun a cs cc w w' v h => .one (by rw [fram_eq]; exact stepR_round_end rfl rfl h)) hp
theorem JJ.roundRet {l : Nat} {fn : FuncId} {N : Nat} {E0 : List (Nat × Value)} {ps : Array Tmp} {asg body : Code} {st : LoopState} {pend : Option Code} (hro : c.ro = some l)
    (hp : ∀ h, Sat (lrec l fn N E0 ps asg body .done (some .ret) :: L) h → c.R (.bool false) I h) : JJ c (.code .ret :: K) E D I (lrec l fn N E0 ps asg body st pend :: L) :=
  JJ.endW (jump := some .ret) hro (fun a cs cc w w' v h => .one (by rw [fram_eq]; exact stepR_round_ret rfl rfl h)) hp
theorem JJ.roundExit {l id : Nat} {fn : FuncId} {N : Nat} {E0 : List (Nat × Value)} {ps : Array Tmp} {asg body : Code} {st : LoopState} {pend : Option Code} (hro : c.ro = some l) (hx : exitTo id K = none)
    (hp : ∀ h, Sat (lrec l fn N E0 ps asg body .done (some (.exit id)) :: L) h → c.R (.bool false) I h) : JJ c (.code (.exit id) :: K) E D I (lrec l fn N E0 ps asg body st pend :: L) :=
  JJ.endW (jump := some (.exit id)) hro (fun a cs cc w w' v h => .one (by rw [fram_eq]; exact stepR_round_exit rfl rfl hx h)) hp
/-! ### The statement -/
/-- **FOR .. := RANGE g**: s0: the state ahead; L0: what the rounds write; jmp: what a round that stops leaves to be done. -/
theorem JJ.rangeFunc {S α : Type} {f : FuncId} {fs cs : List Value} {g : Operand} {ps : Array Tmp} {asg body : Code} {xs : List α} {Re : Hp → List Value → α → Prop} {bs : List Nat} {Lr : List HP} (Φ : S → Hp → Prop) (L0 : S → Bool → List HP) (st : S → α → S → Bool → Prop) (jmp : S → Code) (s0 : S)
    (hro : c.ro = none) (hbo : bodyOk c.P f = true) (hps : ps.toList.all (Nat.blt · c.N) = true) (hg : evE E g = some (.func (.func f) fs.toArray cs.toArray))
    (hit : Iter c.P f (fun y => (fs ++ [y] ++ cs).toArray) I Re xs) (hRe : ∀ I vs d, Re I vs d → vs.length = ps.size) (hmono : ∀ s I1 I2, Hp.le I1 I2 → Φ s I1 → Φ s I2) (hΦ : Φ s0 I) (hL : ∀ h, Sat L h → Sat (L0 s0 true ++ mks bs :: Lr) h)
    (hround : ∀ l s I1 vs d, I.le I1 → (∃ pre post, xs = pre ++ d :: post ∧ Runs st s0 pre s true) → Φ s I1 → Re I1 vs d →
      JJ ⟨c.P, c.f, some l, c.N, fun v I2 h => ∃ s' g, v = .bool g ∧ st s d s' g ∧ Φ s' I2 ∧ Sat (lrec l c.f c.N E ps asg body (if g then .ready else .done) (if g then none else some (jmp s')) :: L0 s' g) h⟩
        [.code asg, .beginRound, .code body] (pE ps.toList vs E) [] I1 (lrec l c.f c.N E ps asg body .ready none :: L0 s true))
    (hJ : ∀ b I2 s' g, I.le I2 → Runs st s0 xs s' g → Φ s' I2 → JJ c ((if g then [] else [.code (jmp s')]) ++ K) E (marks (b :: bs)) I2 (mks (b :: bs) :: (L0 s' g ++ Lr))) :
    JJ c (.code (.rangeFunc g ps asg body) :: K) E (marks bs) I L := by
  intro a w h k hE hS hR css hcs
  rw [hro] at hcs ⊢
  have hS := hL h hS
  -- two new blocks
  have hn1 := hS.new (.deferred (some [])) (hR.hon.fresh (Nat.le_refl w.heap.size))
  have hR1 := hR.new (.deferred (some []))
  generalize hw1 : ({ w with heap := w.heap.push (.deferred (some [])) } : World) = w1 at hR1
  have hs1 : w1.heap.size = w.heap.size + 1 := by rw [← hw1]; simp
  generalize hrc : ({ state := .ready, pending := none, fn := c.f, tmps := a.tmps, params := ps, assign := asg, body := body, defers := w.heap.size } : Loop) = rc
  have hn2 := hn1.new (.loop rc) (hR1.hon.fresh (Nat.le_refl w1.heap.size))
  have hR2 := hR1.new (.loop rc)
  rw [hs1] at hn2 hR2
  generalize hw2 : ({ w1 with heap := w1.heap.push (.loop rc) } : World) = w2 at hR2
  have he : (Instr.enterLoop c.f a.tmps ps asg body none).run c.P w = .ok (w.heap.size + 1, marks [w.heap.size]) w2 := by
    rw [run_enterLoop_outer, ← hw2, ← hw1, hrc]; rfl
  generalize w.heap.size + 1 = l at *
  generalize w.heap.size = b at *
  have henv : Env c.N { tmps := a.tmps, defers := [] } E [] := ⟨hE.size, hE.vals, rfl⟩
  let Y : S → Bool → List HP := fun s g => lrec l c.f c.N E ps asg body (if g then .ready else .done) (if g then none else some (jmp s)) :: L0 s g
  have hS3 : Sat (Y s0 true ++ (mks (b :: bs) :: Lr)) ((h.set b (.deferred (some []))).set l (.loop rc)) := by
    obtain ⟨h1, h2, l1, l2, d, hl, hr⟩ := hn2
    have hA : Sat (lrec l c.f c.N E ps asg body .ready none :: blk b (.deferred (some [])) :: (L0 s0 true ++ mks bs :: Lr)) ((h.set b (.deferred (some []))).set l (.loop rc)) := ⟨h1, h2, l1, l2, d, ⟨a.tmps, b, henv, by rw [hrc]; exact hl⟩, hr⟩
    have hB : Sat (mks bs :: (blk b (.deferred (some [])) :: (Y s0 true ++ Lr))) ((h.set b (.deferred (some []))).set l (.loop rc)) := by
      refine Sat.perm ?_ hA
      show List.Perm (lrec l c.f c.N E ps asg body .ready none :: blk b (.deferred (some [])) :: (L0 s0 true ++ mks bs :: Lr)) (mks bs :: blk b (.deferred (some [])) :: lrec l c.f c.N E ps asg body .ready none :: (L0 s0 true ++ Lr))
      refine (List.Perm.cons _ (List.Perm.cons _ List.perm_middle)).trans ?_
      refine (List.Perm.cons _ (List.Perm.swap _ _ _)).trans ?_
      exact (List.Perm.swap _ _ _).trans (List.Perm.cons _ (List.Perm.swap _ _ _))
    have hC : Sat (mks (b :: bs) :: (Y s0 true ++ Lr)) ((h.set b (.deferred (some []))).set l (.loop rc)) := by
      obtain ⟨h1, h2, l1, l2, d, m1, h3, h4, l3, l4, d2, m2, m3⟩ := hB
      refine ⟨h3.add h1, h4, fun n o x => ?_, l4.trans l2, Hp.add_dj d2 (d.mono (.refl _) l4), ?_, m3⟩
      · simp only [Hp.add] at x
        cases y : h3 n with
        | none => rw [y] at x; exact l1 n o (by simpa using x)
        | some z => rw [y] at x; exact l2 n o (l3 n o (by rw [y]; simpa using x))
      · have dd : Hp.dj h3 h1 := (d.mono (.refl _) l3).symm
        exact ⟨h3, h1, Hp.le_add _ _, Hp.le_add' dd, dd, m2, m1⟩
    exact Sat.perm List.perm_middle.symm hC
  -- the rounds
  have hrs : Rounds c.P l Re Φ Y st (fun s' d => ∃ pre post, xs = pre ++ d :: post ∧ Runs st s0 pre s' true) I := by
    refine ⟨hmono, fun s I1 vs d hle hd hs hre w3 h3 k3 hS3 hR3 => ?_⟩
    have hS3' := hS3
    obtain ⟨h4, h5, l4, l5, d4, ⟨tmps, D0, henv3, hl3⟩, hS5⟩ := hS3
    have hw3 := hR3.hon _ _ (l4 _ _ hl3)
    have hy := run_yield (P := c.P) (args := vs.toArray) hw3 (by simp [hRe _ _ _ hre])
    refine ⟨_, _, _, _, hy, fun cc ccs => ?_⟩
    have hen := Env.pE ps.toList vs tmps E hps henv3
    have hz : (ps.zip vs.toArray).foldl (fun tmps (p : Nat × Value) => tmps.setIfInBounds p.1 p.2) tmps = (ps.toList.zip vs).foldl (fun tmps (p : Nat × Value) => tmps.setIfInBounds p.1 p.2) tmps := by
      rw [← Array.foldl_toList, Array.toList_zip]
    obtain ⟨v, w', ⟨I2, h', q1, q2, q3, s', g', rfl, q4, q5, q6⟩, c', cs', hcc, hst⟩ := hround l s I1 vs d hle hd hs hre _ w3 h3 k3 hen hS3' hR3 (cc :: ccs) (by simp)
    cases hcc
    refine ⟨_, w', ⟨I2, h', q1, q2, q3, (s', g'), ⟨q4, q5⟩, rfl, q6⟩, ?_⟩
    have : Frame.round l c.f ((ps.zip vs.toArray).foldl (fun tmps (p : Nat × Value) => tmps.setIfInBounds p.1 p.2) tmps) asg body .normal = fram c.f (some l) [.code asg, .beginRound, .code body] { tmps := (ps.toList.zip vs).foldl (fun tmps (p : Nat × Value) => tmps.setIfInBounds p.1 p.2) tmps, defers := [] } := by
      rw [hz]; rfl
    show Steps c.P (lone (Frame.round l c.f ((ps.zip vs.toArray).foldl (fun tmps (p : Nat × Value) => tmps.setIfInBounds p.1 p.2) tmps) asg body .normal) (cc :: ccs) w3) _
    rw [this]; exact hst
  have hfn := hit S l Φ Y st I s0 (.refl _) hrs hΦ
  -- the call
  obtain ⟨h1, h2, l1, l2, d, s1, s2⟩ := hS3.split
  have hRc : Rel I h1 (h2.add k) w2 := ⟨hR2.Ion, hR2.hon.mono l1, Hp.add_on (hR2.hon.mono l2) hR2.kon, hR2.Ih.mono (.refl _) l1, (Hp.add_dj (hR2.Ih.mono (.refl _) l2).symm hR2.Ik.symm).symm, (Hp.add_dj d.symm (hR2.hk.mono l1 (.refl _)).symm).symm⟩
  have hres : (resolve a.eval (rangeCall g l) 0).run c.P w2 = .ok { target := .fn (.func f) cs.toArray, args := fs.toArray ++ #[.func (.yield l) #[] #[]] } w2 := by
    have hev := hE.ev hg
    simp only [resolve, rangeCall]
    rw [hev]
    simp [Deferred.ofValue, Act.eval]
  have hinv : (invoke (.fn (.func f) cs.toArray) (fs.toArray ++ #[.func (.yield l) #[] #[]])).run c.P w2 = .ok (.enter f (fs ++ [Value.func (.yield l) #[] #[]] ++ cs).toArray) w2 := by
    simp [invoke, callFunc_run hbo]
  have hstep := stepR_rangeFunc (P := c.P) (b := { (default : Frame) with fn := c.f, kind := .normal, roundOf := none }) (a := a) (k := K) (cs := css) (w := w) he hres hinv
  obtain ⟨e, w', fr, ⟨v, rfl, I', h', hle, hR', hos, ⟨v', z1, z2⟩, ⟨hrn, hx⟩, hvv, hSx⟩, hsteps, hfnn, hleave⟩ := hfn w2 h1 (h2.add k) s1 hRc (Frame.atR { (default : Frame) with fn := c.f, kind := .normal, roundOf := none } { a with defers := marks [b] ++ a.defers } (.inRangeFunc l :: K) :: css)
  have hback := step_leave_returned (P := c.P) (c := Frame.atR { (default : Frame) with fn := c.f, kind := .normal, roundOf := none } { a with defers := marks [b] ++ a.defers } (.inRangeFunc l :: K)) (cs := css) hleave
  rw [finish_atR_inRangeFunc] at hback
  have le2 : Hp.le h2 (h2.add k) := Hp.le_add _ _
  have lek : Hp.le k (h2.add k) := Hp.le_add' (hR2.hk.mono l2 (.refl _))
  have d2 : Hp.dj h' h2 := hR'.hk.mono (.refl _) le2
  have hR3 : Rel I' (h'.add h2) k w' := ⟨hR'.Ion, Hp.add_on hR'.hon (hR'.kon.mono le2), hR'.kon.mono lek, (Hp.add_dj hR'.Ih.symm (hR'.Ik.mono (.refl _) le2).symm).symm, hR'.Ik.mono (.refl _) lek, Hp.add_dj (hR'.hk.mono (.refl _) lek) (hR2.hk.mono l2 (.refl _))⟩
  have hS4 : Sat (Y z1 z2 ++ (mks (b :: bs) :: Lr)) (h'.add h2) := Sat.join (Hp.le_add _ _) (Hp.le_add' d2) d2 hSx s2
  obtain ⟨h5, h6, l5, l6, d5, ⟨tmps, D0, henv5, hl5⟩, hS6⟩ := hS4
  have hw5 := hR3.hon _ _ (l5 _ _ hl5)
  have hend := run_endLoop (P := c.P) hw5 (by cases z2 <;> (intro h; cases h))
  have hst5 := stepR_endRangeFunc (P := c.P) (b := { (default : Frame) with fn := c.f, kind := .normal, roundOf := none }) (a := { a with defers := marks [b] ++ a.defers }) (k := K) (cs := css) hend
  have hR6 := hR3.obj (o' := .loop { state := .exhausted, pending := if z2 then none else some (jmp z1), fn := c.f, tmps, params := ps, assign := asg, body, defers := D0 }) (l5 _ _ hl5)
  have hS7 : Sat (mks (b :: bs) :: (L0 z1 z2 ++ Lr)) ((h'.add h2).set l (.loop { state := .exhausted, pending := if z2 then none else some (jmp z1), fn := c.f, tmps, params := ps, assign := asg, body, defers := D0 })) := by
    obtain ⟨_, h7, h8, l7, l8, d7, _, hS8⟩ := Sat.write (b := l) (L := L0 z1 z2 ++ (mks (b :: bs) :: Lr)) ⟨h5, h6, l5, l6, d5, hl5, hS6⟩ (.loop { state := .exhausted, pending := if z2 then none else some (jmp z1), fn := c.f, tmps, params := ps, assign := asg, body, defers := D0 })
    exact Sat.perm List.perm_middle (hS8.mono l8)
  have hE7 : Env c.N { a with defers := marks [b] ++ a.defers } E (marks (b :: bs)) := ⟨hE.size, hE.vals, by show marks [b] ++ a.defers = _; rw [hE.dfs]; rfl⟩
  have hfin := hJ b I' z1 z2 hle hrn hx { a with defers := marks [b] ++ a.defers } _ _ k hE7 hS7 hR6 css (by rw [hro]; exact hcs)
  rw [hro] at hfin
  have hos2 : Os w w' := (⟨by rw [← hw2, ← hw1], by rw [← hw2, ← hw1], by rw [← hw2, ← hw1]⟩ : Os w w2).trans hos
  refine (Fin.steps ?_ hfin).mono fun v w'' p => p.later hle ⟨hos2.os, hos2.tape, hos2.output⟩
  rw [fram_eq]
  refine .head hstep (Steps.trans hsteps (.head hback ?_))
  have hj : ((if z2 = true then none else some (jmp z1)).map Item.code).toList ++ K = (if z2 = true then [] else [Item.code (jmp z1)]) ++ K := by cases z2 <;> rfl
  rw [← hj]
  exact .one hst5
end
end Go.Proofs.Ytlcdafeoionnhaa
