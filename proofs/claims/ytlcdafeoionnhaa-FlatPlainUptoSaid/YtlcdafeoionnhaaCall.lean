/- Contracts of functions, calls, ends, loops; rows of one's own that are appended to. -/
import Derived.Test.YtlcdafeoionnhaaMem
import Derived.Deep.AppendSrc
import Derived.Laws.AppendOwn
namespace Go.Proofs.Ytlcdafeoionnhaa
open Go
set_option linter.unusedSimpArgs false
set_option linter.unusedVariables false

/-! ### Contracts -/
/-- What a contract promises: some x, of which Φ holds; the value; the resources. -/
def Ret {X : Type} (Φ : X → Hp → Prop) (V : X → Value) (L : X → List HP) : Value → Hp → HP := fun v I h => ∃ x, Φ x I ∧ v = V x ∧ Sat (L x) h
def Fn (P : Program) (f : FuncId) (args : Array Value) (I : Hp) (L : List HP) (R : Value → Hp → HP) : Prop :=
  ∀ w h k, Sat L h → Rel I h k w → Calls P f args w fun e w' => ∃ v, e = .returned v ∧ Post I k w R v w'
theorem Fn.mono {P : Program} {f : FuncId} {args : Array Value} {I : Hp} {L : List HP} {R R' : Value → Hp → HP} (h : Fn P f args I L R) (k : ∀ v I' h', I.le I' → R v I' h' → R' v I' h') : Fn P f args I L R' :=
  fun w h' k' hS hR => (h w h' k' hS hR).mono fun e w' ⟨v, he, I', h'', l, r, o, q⟩ => ⟨v, he, I', h'', l, r, o, k _ _ _ l q⟩
def E0 (args : List Value) (n : Nat) : List (Nat × Value) :=
  match args with
  | [] => []
  | v :: r => (n, v) :: E0 r (n + 1)
theorem get_E0 (args : List Value) : ∀ (n t : Nat) (v : Value), get (E0 args n) t = some v → ∃ j, args[j]? = some v ∧ t = n + j := by
  induction args with
  | nil => intro n t v h; cases h
  | cons u r ih =>
    intro n t v h
    simp only [E0, get] at h
    cases c : Nat.beq n t with
    | true =>
      rw [c] at h
      simp only [cond_true, Option.some.injEq] at h
      exact ⟨0, by simp [h], by have := Nat.eq_of_beq_eq_true c; omega⟩
    | false =>
      rw [c] at h
      obtain ⟨j, hj, ht⟩ := ih (n + 1) t v (by simpa using h)
      exact ⟨j + 1, by simpa using hj, by omega⟩
/-- A contract out of the body's walk. -/
theorem Fn.of {P : Program} {f : FuncId} {fn : Func} {body : Code} {args : List Value} {I : Hp} {L : List HP} {R : Value → Hp → HP} (hf : P.funcs[f]? = some fn) (hb : fn.body = some body) (hN : Nat.ble args.length fn.ntmps = true)
    (h : JJ ⟨P, f, none, fn.ntmps, R⟩ [.code body] (E0 args 0) [] I L) : Fn P f args.toArray I L R := by
  intro w hh k hS hR cs
  have hN' : args.length ≤ fn.ntmps := by simpa using hN
  have henv : Env fn.ntmps { tmps := args.toArray ++ Array.replicate (fn.ntmps - args.toArray.size) undef, defers := [] } (E0 args 0) [] := by
    refine ⟨by simp; omega, fun t v e => ?_, rfl⟩
    obtain ⟨j, hj, ht⟩ := get_E0 args 0 t v e
    have hlt := (List.getElem?_eq_some_iff.1 hj).1
    have ht' : t = j := by omega
    subst ht'
    rw [Array.getD_eq_getD_getElem?, Array.getElem?_append_left (by simpa using hlt)]
    simp [hj]
  obtain ⟨v, w', fr, hp, hs, hfn, hl⟩ := h _ w hh k henv hS hR cs (by simp)
  refine ⟨.returned v, w', fr, ⟨v, rfl, hp⟩, ?_, hfn, hl⟩
  have : Frame.enter P f args.toArray .normal = fram f none [.code body] { tmps := args.toArray ++ Array.replicate (fn.ntmps - args.toArray.size) undef, defers := [] } := by
    simp [Frame.enter, fram, hf, hb]
  show Steps P _ _
  rw [this]; exact hs
/-- The results of a function that returns, none of them in a cell. -/
def resE (E : List (Nat × Value)) : List ResultVar → Option (List Value)
  | [] => some []
  | .tmp t :: r => match get E t, resE E r with
    | some v, some vs => some (v :: vs)
    | _, _ => none
  | .cell _ _ :: _ => none
def resV : List Value → Value
  | [v] => v
  | vs => .tuple vs.toArray
/-- What each result holds, in memory or not. -/
def ResAt (P : Program) (w : World) (tmps : Array Value) : List ResultVar → List Value → Prop
  | [], [] => True
  | .tmp t :: r, v :: vs => tmps.getD t undef = v ∧ ResAt P w tmps r vs
  | .cell a T :: r, v :: vs => (∃ x, tmps.getD a undef = .pointer (some x) ∧ (loadVar T x).run P w = .ok v w) ∧ ResAt P w tmps r vs
  | _, _ => False
theorem mapM_list {P : Program} {w : World} (F : ResultVar → Sem Value) (tmps : Array Value) : ∀ (l : List ResultVar) (vs : List Value), (ResAt P w tmps l vs) → (∀ t, F (.tmp t) = pure (tmps.getD t undef)) → (∀ a T, F (.cell a T) = (do loadVar T (← asAddr (tmps.getD a undef)))) →
    (l.mapM F).run P w = .ok vs w := by
  intro l
  induction l with
  | nil => intro vs h _ _; cases vs with | nil => simp | cons _ _ => exact h.elim
  | cons r l ih =>
    intro vs h h1 h2
    cases vs with
    | nil => cases r <;> exact h.elim
    | cons v vs =>
      cases r with
      | tmp t =>
        obtain ⟨e, h'⟩ := h
        simp only [List.mapM_cons, Sem.run_bind, h1, Sem.run_pure, Result.andThen_ok, ih vs h' h1 h2, e]
      | cell a T =>
        obtain ⟨⟨x, e, hl⟩, h'⟩ := h
        simp only [List.mapM_cons, Sem.run_bind, h2, e, asAddr, Sem.run_pure, Result.andThen_ok, hl, ih vs h' h1 h2]
theorem results_run {P : Program} {fn : Func} {tmps : Array Value} {w : World} {l : List ResultVar} {vs : List Value} (hl : fn.results = l.toArray) (h : ResAt P w tmps l vs) : (results fn tmps).run P w = .ok (resV vs) w := by
  simp only [results, Sem.run_bind, hl]
  rw [List.mapM_toArray, Sem.run_map, mapM_list _ tmps l vs h (fun _ => rfl) (fun _ _ => rfl)]
  simp only [Result.andThen_ok, Sem.run_pure]
  rcases vs with _ | ⟨v, _ | ⟨u, r⟩⟩ <;> simp [resV]
/-! ### Ends -/
theorem JJ.retW {c : Cx} {todo : List Item} {E : List (Nat × Value)} {I : Hp} {L : List HP} {fn : Func} {l : List ResultVar} {vs : List Value} (hro : c.ro = none) (hf : c.P.funcs[c.f]? = some fn) (hl : fn.results = l.toArray)
    (ht : ∀ (a : Act) (cs : List Frame) (w : World), ∃ td, Steps c.P (lone (fram c.f none todo a) cs w) (lone { fram c.f none td a with mode := .returning } cs w))
    (hr : ∀ a w h k, Env c.N a E [] → Sat L h → Rel I h k w → ResAt c.P w a.tmps l vs) (hp : ∀ h, Sat L h → c.R (resV vs) I h) : JJ c todo E [] I L := by
  intro a w h k hE hS hR cs _
  rw [hro]
  obtain ⟨td, st⟩ := ht a cs w
  exact ⟨resV vs, w, _, ⟨I, h, .refl _, hR, .refl _, hp h hS⟩, st, rfl, rfl, hE.dfs, rfl, fn, hf, results_run hl (hr a w h k hE hS hR)⟩
theorem ret_steps {P : Program} {f : FuncId} {K : List Item} (a : Act) (cs : List Frame) (w : World) : ∃ td, Steps P (lone (fram f none (.code .ret :: K) a) cs w) (lone { fram f none td a with mode := .returning } cs w) :=
  ⟨_, .one (by rw [fram_eq]; exact stepR_ret rfl)⟩
theorem end_steps {P : Program} {f : FuncId} (a : Act) (cs : List Frame) (w : World) : ∃ td, Steps P (lone (fram f none [] a) cs w) (lone { fram f none td a with mode := .returning } cs w) :=
  ⟨_, .one (by rw [fram_eq]; exact stepR_end rfl)⟩
section ends
variable {c : Cx} {K : List Item} {E : List (Nat × Value)} {I : Hp} {L : List HP} {fn : Func}
theorem JJ.ret0 (hro : c.ro = none) (hf : c.P.funcs[c.f]? = some fn) (hl : fn.results = #[]) (hp : ∀ h, Sat L h → c.R (.tuple #[]) I h) : JJ c (.code .ret :: K) E [] I L :=
  JJ.retW (l := []) (vs := []) hro hf hl ret_steps (fun _ _ _ _ _ _ _ => trivial) hp
theorem JJ.end0 (hro : c.ro = none) (hf : c.P.funcs[c.f]? = some fn) (hl : fn.results = #[]) (hp : ∀ h, Sat L h → c.R (.tuple #[]) I h) : JJ c [] E [] I L :=
  JJ.retW (l := []) (vs := []) hro hf hl end_steps (fun _ _ _ _ _ _ _ => trivial) hp
theorem JJ.ret1 {t : Nat} {v : Value} (hro : c.ro = none) (hf : c.P.funcs[c.f]? = some fn) (hl : fn.results = #[.tmp t]) (hv : get E t = some v) (hp : ∀ h, Sat L h → c.R v I h) : JJ c (.code .ret :: K) E [] I L :=
  JJ.retW (l := [.tmp t]) (vs := [v]) hro hf hl ret_steps (fun _ _ _ _ hE _ _ => ⟨hE.vals _ _ hv, trivial⟩) hp
theorem JJ.ret2 {t u : Nat} {v x : Value} (hro : c.ro = none) (hf : c.P.funcs[c.f]? = some fn) (hl : fn.results = #[.tmp t, .tmp u]) (hv : get E t = some v) (hx : get E u = some x) (hp : ∀ h, Sat L h → c.R (.tuple #[v, x]) I h) : JJ c (.code .ret :: K) E [] I L :=
  JJ.retW (l := [.tmp t, .tmp u]) (vs := [v, x]) hro hf hl ret_steps (fun _ _ _ _ hE _ _ => ⟨hE.vals _ _ hv, hE.vals _ _ hx, trivial⟩) hp
theorem JJ.ret3 {t u s : Nat} {v x y : Value} (hro : c.ro = none) (hf : c.P.funcs[c.f]? = some fn) (hl : fn.results = #[.tmp t, .tmp u, .tmp s]) (hv : get E t = some v) (hx : get E u = some x) (hy : get E s = some y) (hp : ∀ h, Sat L h → c.R (.tuple #[v, x, y]) I h) : JJ c (.code .ret :: K) E [] I L :=
  JJ.retW (l := [.tmp t, .tmp u, .tmp s]) (vs := [v, x, y]) hro hf hl ret_steps (fun _ _ _ _ hE _ _ => ⟨hE.vals _ _ hv, hE.vals _ _ hx, hE.vals _ _ hy, trivial⟩) hp
theorem cell_at {P : Program} {a : Act} {w : World} {h k : Hp} {D : List Deferred} {N : Nat} {T : TypeId} {g : Bool} {n b off t j : Nat} {C : Array Value} {U : TypeId} {fz : Nat × Nat} {v : Value} (ht : tyI P T = some (g, n)) (hv : get E t = some (.pointer (some ⟨b, off, none⟩))) (hj : L[j]? = some (blk b (.cells C U fz)))
    (hl : ldV g n (C.toList.drop off) = some v) (hE : Env N a E D) (hS : Sat L h) (hR : Rel I h k w) : ∃ x, a.tmps.getD t undef = .pointer (some x) ∧ (loadVar T x).run P w = .ok v w := by
  obtain ⟨h1, h2, l1, _, _, hb, _⟩ := hS.pull j hj
  exact ⟨_, hE.vals _ _ hv, loadVar_run ht (Row.of hb off) (hR.hon.mono l1) hl⟩
theorem JJ.retc {t b off n : Nat} {T : TypeId} {g : Bool} {C : Array Value} {U : TypeId} {fz : Nat × Nat} {v : Value} (ht : tyI c.P T = some (g, n)) (j : Nat) (hro : c.ro = none) (hf : c.P.funcs[c.f]? = some fn) (hl : fn.results = #[.cell t T]) (hv : get E t = some (.pointer (some ⟨b, off, none⟩))) (hj : L[j]? = some (blk b (.cells C U fz)))
    (hx : ldV g n (C.toList.drop off) = some v) (hp : ∀ h, Sat L h → c.R v I h) : JJ c (.code .ret :: K) E [] I L :=
  JJ.retW (l := [.cell t T]) (vs := [v]) hro hf hl ret_steps (fun _ _ _ _ hE hS hR => ⟨cell_at ht hv hj hx hE hS hR, trivial⟩) hp
theorem JJ.retct {t b off n u : Nat} {T : TypeId} {g : Bool} {C : Array Value} {U : TypeId} {fz : Nat × Nat} {v y : Value} (ht : tyI c.P T = some (g, n)) (j : Nat) (hro : c.ro = none) (hf : c.P.funcs[c.f]? = some fn) (hl : fn.results = #[.cell t T, .tmp u]) (hv : get E t = some (.pointer (some ⟨b, off, none⟩))) (hj : L[j]? = some (blk b (.cells C U fz)))
    (hx : ldV g n (C.toList.drop off) = some v) (hy : get E u = some y) (hp : ∀ h, Sat L h → c.R (.tuple #[v, y]) I h) : JJ c (.code .ret :: K) E [] I L :=
  JJ.retW (l := [.cell t T, .tmp u]) (vs := [v, y]) hro hf hl ret_steps (fun _ _ _ _ hE hS hR => ⟨cell_at ht hv hj hx hE hS hR, hE.vals _ _ hy, trivial⟩) hp
theorem JJ.rettc {t b off n u : Nat} {T : TypeId} {g : Bool} {C : Array Value} {U : TypeId} {fz : Nat × Nat} {v y : Value} (ht : tyI c.P T = some (g, n)) (j : Nat) (hro : c.ro = none) (hf : c.P.funcs[c.f]? = some fn) (hl : fn.results = #[.tmp u, .cell t T]) (hv : get E t = some (.pointer (some ⟨b, off, none⟩))) (hj : L[j]? = some (blk b (.cells C U fz)))
    (hx : ldV g n (C.toList.drop off) = some v) (hy : get E u = some y) (hp : ∀ h, Sat L h → c.R (.tuple #[y, v]) I h) : JJ c (.code .ret :: K) E [] I L :=
  JJ.retW (l := [.tmp u, .cell t T]) (vs := [y, v]) hro hf hl ret_steps (fun _ _ _ _ hE hS hR => ⟨hE.vals _ _ hy, cell_at ht hv hj hx hE hS hR, trivial⟩) hp
end ends

/-! ### Loops -/
/-- A loop, by induction on a measure: x is what is known at the head of a round. -/
theorem JJ.induct {X : Type} {c : Cx} {K : List Item} {E0 : List (Nat × Value)} {D : List Deferred} {I0 : Hp} {L0 : List HP} {body : Code} (E : X → List (Nat × Value)) (I : X → Hp) (L : X → List HP) (Inv : X → Prop) (μ : X → Nat) (x0 : X) (h0 : Inv x0)
    (enter : JJ c (.code body :: .inLoop body :: K) (E x0) D (I x0) (L x0) → JJ c (.code body :: .inLoop body :: K) E0 D I0 L0)
    (round : ∀ x, Inv x → (∀ y, Inv y → μ y < μ x → JJ c (.inLoop body :: K) (E y) D (I y) (L y)) → JJ c (.code body :: .inLoop body :: K) (E x) D (I x) (L x)) : JJ c (.code (.loop body) :: K) E0 D I0 L0 := by
  refine JJ.loop (enter ?_)
  have key : ∀ n x, μ x = n → Inv x → JJ c (.code body :: .inLoop body :: K) (E x) D (I x) (L x) := by
    intro n
    induction n using Nat.strongRecOn with
    | _ n ih => exact fun x hn hx => round x hx fun y hy hlt => JJ.inLoop (ih (μ y) (hn ▸ hlt) y rfl hy)
  exact key _ x0 rfl h0

/-! ### Calls -/
def evL (E : List (Nat × Value)) : List Operand → Option (List Value)
  | [] => some []
  | o :: r => match evE E o, evL E r with
    | some v, some vs => some (v :: vs)
    | _, _ => none
theorem evL_cons {E : List (Nat × Value)} {o : Operand} {r : List Operand} {v : Value} {vs : List Value} (h : evE E o = some v) (k : evL E r = some vs) : evL E (o :: r) = some (v :: vs) := by simp only [evL, h, k]
theorem Env.evL {N : Nat} {a : Act} {E : List (Nat × Value)} {D : List Deferred} (h : Env N a E D) : ∀ {l : List Operand} {vs : List Value}, evL E l = some vs → l.map a.eval = vs
  | [], vs, e => by cases e; rfl
  | o :: r, vs, e => by
    simp only [Go.Proofs.Ytlcdafeoionnhaa.evL] at e
    split at e
    · rename_i v us hv hus
      cases e
      simp [h.ev hv, h.evL hus]
    · cases e
/-- Has a function a body (and no special meaning)? -/
def bodyOk (P : Program) (f : FuncId) : Bool :=
  match P.funcs[f]? with
  | some fn => fn.body.isSome && !(fn.name == "runtime.NumGoroutine")
  | none => false
theorem callFunc_run {P : Program} {f : FuncId} (h : bodyOk P f = true) (args : Array Value) (w : World) : (callFunc f args).run P w = .ok (.enter f args) w := by
  unfold bodyOk at h
  split at h
  · rename_i fn hf
    simp only [Bool.and_eq_true, Bool.not_eq_true'] at h
    have h1 : fn.body.isNone = false := by
      have := h.1
      cases hb : fn.body <;> simp_all
    have h2 : ¬ fn.name = "runtime.NumGoroutine" := by simpa using h.2
    have h3 : ¬ fn.body = none := fun e => by rw [e] at h1; cases h1
    simp [callFunc, hf, h2, h3]
  · cases h
section calls
variable {c : Cx} {K : List Item} {E : List (Nat × Value)} {D : List Deferred} {I : Hp} {L : List HP} {ops : Array Oper} {i : Nat} {is : List Nat}
variable {dst : Option Nat} {ty : TypeId} {pos : String} {aft : Array Edge} {gd : Option (Nat × Bool)}
theorem steps_call {f g : FuncId} {ro : Option Nat} {P : Program} {a : Act} {w w1 : World} {o : Oper} {args : Array Value} {R : Ending → World → Prop} (ho : ops[i]? = some o) (hw : Region.wanted o (yielded ops a.tmps) = true) (hdf : ∀ c, o.op ≠ .defer c)
    (hr : (execOp a.eval o).run P w = .ok (.enter g args) w1) (hc : Calls P g args w1 R) (hR : ∀ e w', R e w' → ∃ v, e = .returned v) (cs : List Frame) :
    ∃ v w', R (.returned v) w' ∧ Steps P (lone (fram f ro (.inRegion ops (i :: is) :: K) a) cs w) (lone (fram f ro (.inRegion ops is :: K) (a.put o.dst v)) cs w') := by
  obtain ⟨e, w', fr, hRe, hs, hfn, hl⟩ := hc (fram f ro (.inRegion ops (i :: is) :: K) a :: cs)
  obtain ⟨v, rfl⟩ := hR _ _ hRe
  refine ⟨v, w', hRe, .head ?_ (Steps.trans hs (.one ?_))⟩
  · refine step_lone_go ?_
    rw [fram_eq]
    have hg := stepGR_op (P := P) (b := { (default : Frame) with fn := f, kind := .normal, roundOf := ro }) (a := a) (k := K) (cs := cs) (w := w) (rest := is) ho hw
    rw [hg, Oper.semAt_eq _ _ _ hdf]
    simp [stepG.apply, hr, Frame.atR]
  · have := step_leave_returned (P := P) (c := fram f ro (.inRegion ops (i :: is) :: K) a) (cs := cs) hl
    rw [this, fram_eq, fram_eq, Frame.finish_atR, ho]
    rfl
theorem JJ.call {X : Type} {Φ : X → Hp → Prop} {V : X → Value} {LX : X → List HP} {fo : Operand} {args : Array Operand} {tys : Array TypeId} {f : FuncId} {fs cs vs : List Value} {Lc Lr : List HP} (hbo : bodyOk c.P f = true) (rg : Reg c.N ops)
    (ho : ops[i]? = some ⟨dst, .call ⟨.value fo, args, tys⟩, ty, pos, aft, gd⟩) (hg : wants ops E gd = some true) (hf : evE E fo = some (.func (.func f) fs.toArray cs.toArray)) (ha : evL E args.toList = some vs)
    (hfn : Fn c.P f (fs ++ vs ++ cs).toArray I Lc (Ret Φ V LX)) (hL : ∀ h, Sat L h → Sat (Lc ++ Lr) h)
    (hJ : ∀ x I', I.le I' → Φ x I' → JJ c (.inRegion ops is :: K) (putE dst (V x) E) D I' (LX x ++ Lr)) : JJ c (.inRegion ops (i :: is) :: K) E D I L := by
  intro a w h k hE hS hR
  obtain ⟨h1, h2, l1, l2, d, s1, s2⟩ := (hL h hS).split
  have hR1 : Rel I h1 (h2.add k) w := ⟨hR.Ion, hR.hon.mono l1, Hp.add_on (hR.hon.mono l2) hR.kon, hR.Ih.mono (.refl _) l1, (Hp.add_dj (hR.Ih.mono (.refl _) l2).symm hR.Ik.symm).symm, (Hp.add_dj d.symm (hR.hk.mono l1 (.refl _)).symm).symm⟩
  have hrun : (execOp a.eval ⟨dst, .call ⟨.value fo, args, tys⟩, ty, pos, aft, gd⟩).run c.P w = .ok (.enter f (fs ++ vs ++ cs).toArray) w := by
    have hargs : args.map a.eval = vs.toArray := by rw [← hE.evL ha]; apply Array.ext'; rw [Array.toList_map]
    simp [execOp, resolve, hE.ev hf, Deferred.ofValue, invoke, callFunc_run hbo, hargs]
  intro css hcs
  obtain ⟨v, w', ⟨v', hv', I', h', hle, hR', hos, x, hx, rfl, hSx⟩, hst⟩ := steps_call (f := c.f) (ro := c.ro) (K := K) (is := is) ho (wants_true hE (okR_lt rg.ok) hg) (fun _ e => by cases e) hrun (hfn w h1 (h2.add k) s1 hR1) (fun e w' ⟨v, hv, _⟩ => ⟨v, hv⟩) css
  cases hv'
  have le2 : Hp.le h2 (h2.add k) := Hp.le_add _ _
  have lek : Hp.le k (h2.add k) := Hp.le_add' (hR.hk.mono l2 (.refl _))
  have d2 : Hp.dj h' h2 := hR'.hk.mono (.refl _) le2
  have hR2 : Rel I' (h'.add h2) k w' := ⟨hR'.Ion, Hp.add_on hR'.hon (hR'.kon.mono le2), hR'.kon.mono lek, (Hp.add_dj hR'.Ih.symm (hR'.Ik.mono (.refl _) le2).symm).symm, hR'.Ik.mono (.refl _) lek, Hp.add_dj (hR'.hk.mono (.refl _) lek) (hR.hk.mono l2 (.refl _))⟩
  have hS2 : Sat (LX x ++ Lr) (h'.add h2) := Sat.join (Hp.le_add _ _) (Hp.le_add' d2) d2 hSx s2
  exact (Fin.steps hst (hJ x I' hle hx _ w' (h'.add h2) k (hE.putE (okR_ok rg.ok ho) _) hS2 hR2 css hcs)).mono fun v w'' p => p.later hle hos
/-- A call whose contract takes and leaves no resource. -/
theorem JJ.callp {X : Type} {Φ : X → Hp → Prop} {V : X → Value} {fo : Operand} {args : Array Operand} {tys : Array TypeId} {f : FuncId} {fs cs vs : List Value} (hbo : bodyOk c.P f = true) (rg : Reg c.N ops)
    (ho : ops[i]? = some ⟨dst, .call ⟨.value fo, args, tys⟩, ty, pos, aft, gd⟩) (hg : wants ops E gd = some true) (hf : evE E fo = some (.func (.func f) fs.toArray cs.toArray)) (ha : evL E args.toList = some vs)
    (hfn : Fn c.P f (fs ++ vs ++ cs).toArray I [] (Ret Φ V fun _ => [])) (hJ : ∀ x I', I.le I' → Φ x I' → JJ c (.inRegion ops is :: K) (putE dst (V x) E) D I' L) : JJ c (.inRegion ops (i :: is) :: K) E D I L :=
  JJ.call (Lc := []) (Lr := L) hbo rg ho hg hf ha hfn (fun _ s => s) hJ
end calls
end Go.Proofs.Ytlcdafeoionnhaa
