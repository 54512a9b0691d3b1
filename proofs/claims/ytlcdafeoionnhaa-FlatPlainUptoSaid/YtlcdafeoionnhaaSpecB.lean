/- What the checker of kinds and the bound of steps compute, in plain Lean. -/
import Derived.Test.YtlcdafeoionnhaaSpecA
import Derived.Test.YtlcdafeoionnhaaMap
namespace Go.Proofs.Ytlcdafeoionnhaa
open Go
set_option linter.unusedVariables false
set_option linter.unusedSimpArgs false
abbrev IMap := List (ByteArray × Int)
def IMap.get (m : IMap) (k : ByteArray) : Int := match m with
  | [] => 0
  | (a, v) :: r => bif decide (k = a) then v else IMap.get r k
def IMap.set (m : IMap) (k : ByteArray) (x : Int) : IMap := match m with
  | [] => [(k, x)]
  | (a, v) :: r => bif decide (k = a) then (a, x) :: r else (a, v) :: IMap.set r k x
def IMap.toS (m : IMap) : SMap := m.map fun p => (p.1, .int .i64 p.2)
theorem IMap.toS_find (k : ByteArray) : ∀ m : IMap, (m.toS.find k).getD (.int .i64 0) = .int .i64 (m.get k)
  | [] => rfl
  | (a, v) :: r => by
    have ih := IMap.toS_find k r
    simp only [IMap.toS, List.map_cons, SMap.find, IMap.get] at ih ⊢
    cases decide (k = a) with
    | true => rfl
    | false => exact ih
theorem IMap.toS_set (k : ByteArray) (x : Int) : ∀ m : IMap, m.toS.set k (.int .i64 x) = (m.set k x).toS
  | [] => rfl
  | (a, v) :: r => by
    have ih := IMap.toS_set k x r
    simp only [IMap.toS, List.map_cons, SMap.set, IMap.set] at ih ⊢
    cases decide (k = a) with
    | true => rfl
    | false => simp only [cond_false, List.map_cons]; rw [ih]
/-! ### Kinds -/
def kindOf (s : ByteArray) : List IMap → Int
  | [] => 0
  | m :: r => if m.get s = 0 then kindOf s r else m.get s
def isK (b : Bool) (k : Int) : Int × Int := if b then (k, 0) else (0, 11)
def tyOp (kf : ByteArray → Int) (op : Int) (s : ByteArray) (a : Int) (e : Bool) : Int × Int :=
  if op = 1 then (1, 0) else if op = 2 then (2, 0) else if op = 3 then (3, 0)
  else if op = 4 then (if kf s = 0 then (0, 9) else (kf s, 0))
  else if op = 5 then isK (decide (a = 2)) 3 else if op = 6 then isK (decide (a = 2)) 1 else if op = 7 then isK (decide (a = 2)) 2
  else if op = 8 then isK (decide (a = 3)) 3 else if op = 9 then isK (e && !decide (a = 3)) a else if op = 10 then isK (e && decide (a = 1)) 1
  else if op = 11 then isK e 3 else if op = 12 then isK (e && !decide (a = 3)) 3 else isK (e && decide (a = 3)) 3
mutual
def Ex.ty (kf : ByteArray → Int) : Ex → Int × Int
  | .mk op _ s x => match Ex.tys kf x with
    | (ks, e) => if e = 0 then tyOp kf op s (ks[0]?.getD 0) (decide (ks[0]?.getD 0 = ks[1]?.getD 0)) else (0, e)
/-- The kinds of a list, up to the first that is not right. -/
def Ex.tys (kf : ByteArray → Int) : List Ex → List Int × Int
  | [] => ([], 0)
  | a :: l => match a.ty kf with
    | (k, e) => if e = 0 then (match Ex.tys kf l with | (ks, e') => (k :: ks, e')) else ([], e)
end
theorem Ex.ty_eq (kf : ByteArray → Int) (x : Ex) : x.ty kf = if (Ex.tys kf x.x).2 = 0 then tyOp kf x.op x.s ((Ex.tys kf x.x).1[0]?.getD 0) (decide ((Ex.tys kf x.x).1[0]?.getD 0 = (Ex.tys kf x.x).1[1]?.getD 0)) else (0, (Ex.tys kf x.x).2) := by cases x; rfl
/-- types.wants. -/
def wantsK (op i k : Int) : Bool :=
  if op = 12 then true else if op = 13 ∨ op = 18 then decide (k = 3) else if (op = 3 ∨ op = 5) ∧ i = 1 then decide (k = 1) else decide (k = 2)
/-- The checker's state. -/
structure Ck where
  scope : List IMap
  procs : IMap
  at_ : Int
  fault : Int × Int
def Ck.fail (c : Ck) (e at' : Int) : Ck := if c.fault = (0, 0) then { c with fault := (e, at') } else c
def Ck.kf (c : Ck) (s : ByteArray) : Int := kindOf s c.scope
def Ck.expr1 (c : Ck) (op i at' : Int) (x : Ex) : Ck :=
  if (x.ty c.kf).2 = 0 then (if wantsK op i (x.ty c.kf).1 then c else c.fail 11 at') else c.fail (x.ty c.kf).2 at'
/-- types.exprs: the state, and the last kind. -/
def Ck.exprs (c : Ck) (op at' : Int) : Nat → Int → List Ex → Ck × Int
  | _, last, [] => (c, last)
  | i, last, x :: l => (c.expr1 op i at' x).exprs op at' (i + 1) (x.ty c.kf).1 l
def Ck.let_ (c : Ck) (s : ByteArray) (k at' : Int) : Ck :=
  let c' := if c.kf s ≠ 0 ∧ c.kf s ≠ k then c.fail 11 at' else c
  { c' with scope := c'.scope.set (c'.scope.length - 1) (((c'.scope[c'.scope.length - 1]?).getD []).set s k) }
def Ck.push (c : Ck) : Ck := { c with scope := c.scope ++ [[]] }
def Ck.pop (c : Ck) : Ck := { c with scope := c.scope.dropLast }
def Ck.next (c : Ck) : Ck := { c with at_ := IntKind.i64.wrap (c.at_ + 1) }
/-- A statement itself, its blocks apart. -/
def Ck.own (c : Ck) (op : Int) (s : ByteArray) (e : List Ex) : Ck :=
  if op = 12 then (c.next.exprs op c.at_ 0 0 e).1.let_ s (c.next.exprs op c.at_ 0 0 e).2 c.at_
  else if op = 15 then (if (c.next.exprs op c.at_ 0 0 e).1.procs.get s = 0 then (c.next.exprs op c.at_ 0 0 e).1.fail 9 c.at_ else (c.next.exprs op c.at_ 0 0 e).1)
  else (c.next.exprs op c.at_ 0 0 e).1
mutual
def Ck.stmt (c : Ck) : St → Ck
  | .mk op s n e b f cm => (Ck.stmts (Ck.stmts (c.own op s e).push b).pop.push f).pop
def Ck.stmts (c : Ck) : List St → Ck
  | [] => c
  | a :: l => Ck.stmts (Ck.stmt c a) l
end
/-- types.block. -/
def Ck.block (c : Ck) (l : List St) : Ck := (Ck.stmts c.push l).pop
theorem Ck.stmt_eq (c : Ck) (x : St) : c.stmt x = ((c.own x.op x.s x.e).block x.body).block x.els := by cases x; rfl
/-! How many scopes there are. -/
theorem Ck.fail_len (s : Ck) (a b : Int) : (s.fail a b).scope.length = s.scope.length := by unfold Ck.fail; split <;> rfl
theorem Ck.expr1_len (s : Ck) (a b c : Int) (x : Ex) : (s.expr1 a b c x).scope.length = s.scope.length := by
  unfold Ck.expr1
  split
  · split
    · rfl
    · exact Ck.fail_len _ _ _
  · exact Ck.fail_len _ _ _
theorem Ck.exprs_len (op at1 : Int) : ∀ (l : List Ex) (s : Ck) (i : Nat) (q : Int), (s.exprs op at1 i q l).1.scope.length = s.scope.length
  | [], s, i, q => rfl
  | x :: l, s, i, q => by simp only [Ck.exprs]; rw [Ck.exprs_len op at1 l, Ck.expr1_len]
theorem Ck.let_len (s : Ck) (nm : ByteArray) (k a : Int) : (s.let_ nm k a).scope.length = s.scope.length := by
  unfold Ck.let_
  dsimp only
  rw [List.length_set]
  split
  · exact Ck.fail_len _ _ _
  · rfl
theorem Ck.own_len (s : Ck) (op : Int) (nm : ByteArray) (e : List Ex) : (s.own op nm e).scope.length = s.scope.length := by
  unfold Ck.own
  split
  · rw [Ck.let_len, Ck.exprs_len]; rfl
  · split
    · split
      · rw [Ck.fail_len, Ck.exprs_len]; rfl
      · rw [Ck.exprs_len]; rfl
    · rw [Ck.exprs_len]; rfl
theorem Ck.push_len (s : Ck) : s.push.scope.length = s.scope.length + 1 := by simp [Ck.push]
theorem Ck.pop_len (s : Ck) : s.pop.scope.length = s.scope.length - 1 := by simp [Ck.pop]
mutual
theorem Ck.stmt_len : ∀ (x : St) (s : Ck), (s.stmt x).scope.length = s.scope.length
  | .mk op nm n e b f cm, s => by
    simp only [Ck.stmt]
    rw [Ck.pop_len, Ck.stmts_len f, Ck.push_len, Ck.pop_len, Ck.stmts_len b, Ck.push_len, Ck.own_len]; omega
theorem Ck.stmts_len : ∀ (l : List St) (s : Ck), (s.stmts l).scope.length = s.scope.length
  | [], s => rfl
  | a :: l, s => by simp only [Ck.stmts]; rw [Ck.stmts_len l, Ck.stmt_len a]
end
theorem Ck.block_len (s : Ck) (l : List St) : (s.block l).scope.length = s.scope.length := by
  unfold Ck.block; rw [Ck.pop_len, Ck.stmts_len, Ck.push_len]; omega
/-- A procedure at the top. -/
def Ck.proc (c : Ck) (p : Pc) : Ck :=
  let c' := if 0 < c.procs.get p.name then c.fail 9 c.at_ else c
  let c'' := c'.block p.body
  { c'' with procs := c''.procs.set p.name (IntKind.i64.wrap (c''.procs.get p.name + 1)) }
def Ck.procl (c : Ck) : List Pc → Ck
  | [] => c
  | p :: l => (c.proc p).procl l
/-- An oracle: n: how often its name has come. -/
def Ck.orac (c : Ck) (seen : IMap) : List Oc → Ck
  | [] => c
  | o :: l =>
    let seen := seen.set o.name (IntKind.i64.wrap (seen.get o.name + 1))
    let c := if 1 < seen.get o.name then c.fail 9 c.at_ else c
    (c.block [.mk 18 ⟨#[]⟩ 0 [o.e] [] [] false]).orac seen l
def Pg.tyFault (p : Pg) : Int × Int :=
  if p.right then (((((Ck.mk [] [] 0 (0, 0)).procl p.procs).block p.main).block p.recover).orac [] p.oracles).fault else (8, 0)
/-! ### Steps -/
mutual
def St.steps (kn : IMap) (acc : Int) : St → Int
  | .mk op s n e b f cm =>
    let a := IntKind.i64.wrap (acc + 1)
    min (if op = 14 then IntKind.i64.wrap (a + IntKind.i64.wrap (n * St.stepl kn 0 b))
      else if op = 13 then IntKind.i64.wrap (a + max (St.stepl kn 0 b) (St.stepl kn 0 f))
      else if op = 16 then IntKind.i64.wrap (a + b.length)
      else if op = 15 then IntKind.i64.wrap (a + kn.get s) else a) 65537
def St.stepl (kn : IMap) (acc : Int) : List St → Int
  | [] => acc
  | a :: l => St.stepl kn (St.steps kn acc a) l
end
def knownOf (kn : IMap) : List Pc → IMap
  | [] => kn
  | p :: l => knownOf (kn.set p.name (St.stepl kn 0 p.body)) l
/-- bound.Steps. -/
def Pg.steps (p : Pg) : Int × Int × Bool :=
  if p.tyFault = (0, 0) then (St.stepl (knownOf [] p.procs) 0 p.main, St.stepl (knownOf [] p.procs) 0 p.recover, true) else (0, 0, false)
/-- bound.Check. -/
def Pg.check (p : Pg) : Int × Int :=
  if p.tyFault = (0, 0) then
    (if p.steps.1 = 65537 then (13, ((Pg.mk p.procs [] [] []).alls.length : Nat))
     else if p.steps.2.1 = 65537 then (13, ((Pg.mk p.procs [] [] []).alls.length + (St.alls p.main).length : Nat)) else (0, 0))
  else p.tyFault
/-! What a right statement's parts are. -/
theorem St.ok_e {x : St} {d : Nat} (h : x.ok d = true) : Ex.okl x.e 8 = true := by
  rw [St.ok_eq] at h
  simp only [shapeB, Bool.and_eq_true] at h
  exact h.1.1.1.2.2
theorem St.ok_b {x : St} {d : Nat} (h : x.ok d = true) : St.okl x.body (d + 1) = true := by
  rw [St.ok_eq] at h
  simp only [Bool.and_eq_true] at h
  exact h.1.2
theorem St.ok_f {x : St} {d : Nat} (h : x.ok d = true) : St.okl x.els (d + 1) = true := by
  rw [St.ok_eq] at h
  simp only [Bool.and_eq_true] at h
  exact h.2
theorem St.okl_mem {l : List St} {x : St} {d : Nat} (h : St.okl l d = true) (hx : x ∈ l) : x.ok d = true := by
  rw [St.okl_all] at h
  exact List.all_eq_true.1 h x hx
end Go.Proofs.Ytlcdafeoionnhaa
