/- What the functions of package tree and lex compute, on scripts as data. -/
import Derived.Test.YtlcdafeoionnhaaSize
import Derived.Shelf.Strings.Search3
namespace Go.Proofs.Ytlcdafeoionnhaa
open Go
def letterB (r : Int) : Bool := decide (97 ≤ r) && decide (r ≤ 122)
def digitB (r : Int) : Bool := decide (48 ≤ r) && decide (r ≤ 57)
def innerB (r : Int) : Bool := letterB r || digitB r || decide (r = 95)
def keysL : List UInt8 := [32, 112, 114, 111, 99, 32, 109, 97, 105, 110, 32, 114, 101, 99, 111, 118, 101, 114, 32, 111, 114, 97, 99, 108, 101, 32, 99, 114, 101, 97, 116, 101, 32, 109, 107, 100, 105, 114, 32, 119, 114, 105, 116, 101, 32, 97, 112, 112, 101, 110, 100, 32, 116, 114, 117, 110, 99, 97, 116, 101, 32, 114, 101, 110, 97, 109, 101, 32, 117, 110, 108, 105, 110, 107, 32, 102, 115, 121, 110, 99, 32, 102, 100, 97, 116, 97, 115, 121, 110, 99, 32, 115, 121, 110, 99, 100, 105, 114, 32, 98, 97, 114, 114, 105, 101, 114, 32, 108, 101, 116, 32, 105, 102, 32, 101, 108, 115, 101, 32, 114, 101, 112, 101, 97, 116, 32, 99, 97, 108, 108, 32, 116, 120, 110, 32, 99, 111, 109, 109, 105, 116, 32, 114, 101, 112, 108, 97, 121, 32, 97, 115, 115, 101, 114, 116, 32, 101, 120, 105, 115, 116, 115, 32, 115, 105, 122, 101, 32, 114, 101, 97, 100, 32, 110, 111, 116, 32, 97, 110, 100, 32, 111, 114, 32, 116, 114, 117, 101, 32, 102, 97, 108, 115, 101, 32]
def keyB (l : List UInt8) : Bool := !l.isEmpty && !Lib.contains l [32] && Lib.contains keysL ([32] ++ l ++ [32])
def nameB (l : List UInt8) : Bool := (match l with | [] => false | b :: _ => letterB b.toNat) && decide (l.length ≤ 8) && l.all (fun b => innerB b.toNat) && !keyB l
/-- tree.Parts, tree.Exprs, tree.blocks. -/
def partsN (op : Int) : Int := if op < 1 ∨ 14 < op then 0 else if op ≤ 4 then 0 else if op ≤ 8 then 1 else 2
def partsOk (op : Int) : Bool := if op < 1 ∨ 14 < op then false else true
def exprsN (op : Int) : Int := if op = 11 ∨ op = 14 ∨ op = 15 then 0 else if op = 4 ∨ op = 5 ∨ op = 6 then 2 else if op = 3 then 3 else if op < 1 ∨ 18 < op then 0 else 1
def exprsOk (op : Int) : Bool := if op = 11 ∨ op = 14 ∨ op = 15 then true else if op = 4 ∨ op = 5 ∨ op = 6 then true else if op = 3 then true else if op < 1 ∨ 18 < op then false else true
def bodyB (op : Int) : Bool := decide (op = 13) || decide (op = 14) || decide (op = 16)
def elseB (op : Int) : Bool := decide (op = 13)
def leafB (op n : Int) (s : List UInt8) : Bool :=
  if op = 1 then decide (0 ≤ n) && decide (n ≤ 1000000000000) && decide (s = [])
  else if op = 3 then (decide (n = 0) || decide (n = 1)) && decide (s = [])
  else if op = 2 then decide (s.length ≤ 64) && decide (n = 0)
  else if op = 4 then nameB s && decide (n = 0)
  else decide (s = []) && decide (n = 0)
mutual
def Ex.ok : Ex → Nat → Bool
  | .mk op n s x, d => partsOk op && decide (d ≠ 0) && decide ((x.length : Int) = partsN op) && leafB op n s.data.toList && Ex.okl x (d - 1)
def Ex.okl : List Ex → Nat → Bool
  | [], _ => true
  | a :: l, d => a.ok d && Ex.okl l d
end
def namedB (op : Int) : Bool := decide (op = 12) || decide (op = 15)
/-- tree.shape. -/
def shapeB (op : Int) (s : List UInt8) (n : Int) (e : List Ex) (nb ne : Nat) (commit : Bool) : Bool :=
  exprsOk op && decide ((e.length : Int) = exprsN op) && (namedB op == decide (s ≠ [])) && (!namedB op || nameB s) &&
  (decide (n = 0) || decide (op = 14)) && decide (0 ≤ n) && decide (n ≤ 16) &&
  (!commit || decide (op = 16)) && (bodyB op || decide (nb = 0)) && (elseB op || decide (ne = 0)) && Ex.okl e 8
mutual
def St.ok : St → Nat → Bool
  | .mk op s n e b f c, d => decide (d ≤ 8) && shapeB op s.data.toList n e b.length f.length c && (!decide (op = 16) || (decide (b.length ≤ 8) && b.all fun x => decide (x.op = 3))) && St.okl b (d + 1) && St.okl f (d + 1)
def St.okl : List St → Nat → Bool
  | [], _ => true
  | a :: l, d => a.ok d && St.okl l d
end
mutual
/-- tree.walk. -/
def St.all : St → List St
  | .mk op s n e b f c => .mk op s n e b f c :: (St.alls b ++ St.alls f)
def St.alls : List St → List St
  | [] => []
  | a :: l => a.all ++ St.alls l
end
def Pg.parts (p : Pg) : List (List St) := p.procs.map (·.body) ++ [p.main, p.recover]
def Pg.alls (p : Pg) : List St := (p.parts.map St.alls).flatten
def Pg.right (p : Pg) : Bool :=
  decide (p.procs.length ≤ 16) && decide (p.oracles.length ≤ 16) && decide (p.alls.length ≤ 256) && p.procs.all (fun x => nameB x.name.data.toList) && p.oracles.all (fun x => nameB x.name.data.toList && x.e.ok 8) && p.parts.all (fun l => St.okl l 1)
theorem Ex.ok_eq (x : Ex) (d : Nat) : x.ok d = (partsOk x.op && decide (d ≠ 0) && decide ((x.x.length : Int) = partsN x.op) && leafB x.op x.n x.s.data.toList && Ex.okl x.x (d - 1)) := by cases x; rfl
theorem Ex.okl_all : ∀ (l : List Ex) (d : Nat), Ex.okl l d = l.all (fun x => x.ok d)
  | [], _ => rfl
  | a :: l, d => by simp only [Ex.okl, List.all_cons, Ex.okl_all l d]
theorem St.ok_eq (x : St) (d : Nat) : x.ok d = (decide (d ≤ 8) && shapeB x.op x.s.data.toList x.n x.e x.body.length x.els.length x.commit && (!decide (x.op = 16) || (decide (x.body.length ≤ 8) && x.body.all fun x => decide (x.op = 3))) && St.okl x.body (d + 1) && St.okl x.els (d + 1)) := by cases x; rfl
theorem St.okl_all : ∀ (l : List St) (d : Nat), St.okl l d = l.all (fun x => x.ok d)
  | [], _ => rfl
  | a :: l, d => by simp only [St.okl, List.all_cons, St.okl_all l d]
theorem St.all_eq (x : St) : x.all = x :: (St.alls x.body ++ St.alls x.els) := by cases x; rfl
theorem St.alls_flat : ∀ (l : List St), St.alls l = (l.map St.all).flatten
  | [] => rfl
  | a :: l => by simp only [St.alls, List.map_cons, List.flatten_cons, St.alls_flat l]
end Go.Proofs.Ytlcdafeoionnhaa
