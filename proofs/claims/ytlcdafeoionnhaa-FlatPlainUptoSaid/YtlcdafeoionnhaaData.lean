/- Scripts as data, and how they lie in memory. -/
import Derived.Test.YtlcdafeoionnhaaLit
namespace Go.Proofs.Ytlcdafeoionnhaa
open Go
set_option linter.unusedVariables false

inductive Ex where
  | mk (op n : Int) (s : ByteArray) (x : List Ex)
inductive St where
  | mk (op : Int) (s : ByteArray) (n : Int) (e : List Ex) (body els : List St) (commit : Bool)
structure Pc where
  name : ByteArray
  body : List St
structure Oc where
  name : ByteArray
  e : Ex
structure Pg where
  procs : List Pc
  main : List St
  recover : List St
  oracles : List Oc
def Ex.op : Ex → Int | .mk o _ _ _ => o
def Ex.n : Ex → Int | .mk _ n _ _ => n
def Ex.s : Ex → ByteArray | .mk _ _ s _ => s
def Ex.x : Ex → List Ex | .mk _ _ _ x => x
def St.op : St → Int | .mk o _ _ _ _ _ _ => o
def St.s : St → ByteArray | .mk _ s _ _ _ _ _ => s
def St.n : St → Int | .mk _ _ n _ _ _ _ => n
def St.e : St → List Ex | .mk _ _ _ e _ _ _ => e
def St.body : St → List St | .mk _ _ _ _ b _ _ => b
def St.els : St → List St | .mk _ _ _ _ _ e _ => e
def St.commit : St → Bool | .mk _ _ _ _ _ _ c => c

/-- The cells of an expression of depth below k. -/
def RE : Nat → Hp → List Value → Ex → Prop
  | 0, _, _, _ => False
  | k + 1, I, cs, x => ∃ A m cp, cs = [.int .i64 x.op, .int .i64 x.n, .string x.s, .slice A m cp] ∧ RSl (RE k) 4 I A m cp x.x
theorem RE.mono {I I' : Hp} (l : I.le I') : ∀ {k : Nat} {cs : List Value} {x : Ex}, RE k I cs x → RE k I' cs x
  | 0, _, _, h => h
  | k + 1, cs, x, ⟨A, m, cp, e, h⟩ => ⟨A, m, cp, e, h.mono l fun _ _ _ r => RE.mono l r⟩
theorem RSl.imp {α : Type} {Re Re' : Hp → List Value → α → Prop} {sz : Nat} {I : Hp} {A : Option Addr} {n cp : Nat} {ds : List α} (h : RSl Re sz I A n cp ds) (hm : ∀ cs d, d ∈ ds → Re I cs d → Re' I cs d) : RSl Re' sz I A n cp ds := by
  obtain ⟨hn, css, ha, hs⟩ := h
  refine ⟨hn, css, ?_, hs⟩
  clear hn hs
  induction ha with
  | nil => exact .nil
  | cons a _ ih => exact .cons ⟨a.1, hm _ _ (by simp) a.2⟩ (ih fun cs d hd => hm cs d (by simp [hd]))
theorem RE.more {I : Hp} : ∀ {k k' : Nat} {cs : List Value} {x : Ex}, k ≤ k' → RE k I cs x → RE k' I cs x
  | 0, _, _, _, _, h => h.elim
  | k + 1, k' + 1, cs, x, hl, ⟨A, m, cp, e, h⟩ => ⟨A, m, cp, e, h.imp fun _ _ _ r => RE.more (by omega) r⟩
theorem RE.len {k : Nat} {I : Hp} {cs : List Value} {x : Ex} (h : RE k I cs x) : cs.length = 4 := by
  cases k with
  | zero => exact h.elim
  | succ k => obtain ⟨A, m, cp, rfl, _⟩ := h; rfl
theorem RE.one {k : Nat} {I : Hp} {cs : List Value} {x : Ex} (h : RE k I cs x) : ∀ u ∈ cs, u.oneCell' = true := by
  cases k with
  | zero => exact h.elim
  | succ k => obtain ⟨A, m, cp, rfl, _⟩ := h; intro u hu; simp at hu; rcases hu with rfl | rfl | rfl | rfl <;> rfl
def RS : Nat → Hp → List Value → St → Prop
  | 0, _, _, _ => False
  | k + 1, I, cs, x => ∃ A m cp A1 m1 cp1 A2 m2 cp2, cs = [.int .i64 x.op, .string x.s, .int .i64 x.n, .slice A m cp, .slice A1 m1 cp1, .slice A2 m2 cp2, .bool x.commit] ∧
      RSl (RE k) 4 I A m cp x.e ∧ RSl (RS k) 7 I A1 m1 cp1 x.body ∧ RSl (RS k) 7 I A2 m2 cp2 x.els
theorem RS.mono {I I' : Hp} (l : I.le I') : ∀ {k : Nat} {cs : List Value} {x : St}, RS k I cs x → RS k I' cs x
  | 0, _, _, h => h
  | k + 1, cs, x, ⟨A, m, cp, A1, m1, cp1, A2, m2, cp2, e, h, h1, h2⟩ => ⟨A, m, cp, A1, m1, cp1, A2, m2, cp2, e, h.mono l fun _ _ _ r => RE.mono l r, h1.mono l fun _ _ _ r => RS.mono l r, h2.mono l fun _ _ _ r => RS.mono l r⟩
theorem RS.more {I : Hp} : ∀ {k k' : Nat} {cs : List Value} {x : St}, k ≤ k' → RS k I cs x → RS k' I cs x
  | 0, _, _, _, _, h => h.elim
  | k + 1, k' + 1, cs, x, hl, ⟨A, m, cp, A1, m1, cp1, A2, m2, cp2, e, h, h1, h2⟩ => ⟨A, m, cp, A1, m1, cp1, A2, m2, cp2, e, h.imp fun _ _ _ r => RE.more (by omega) r, h1.imp fun _ _ _ r => RS.more (by omega) r, h2.imp fun _ _ _ r => RS.more (by omega) r⟩
theorem RS.len {k : Nat} {I : Hp} {cs : List Value} {x : St} (h : RS k I cs x) : cs.length = 7 := by
  cases k with
  | zero => exact h.elim
  | succ k => obtain ⟨A, m, cp, A1, m1, cp1, A2, m2, cp2, rfl, _⟩ := h; rfl
theorem RS.one {k : Nat} {I : Hp} {cs : List Value} {x : St} (h : RS k I cs x) : ∀ u ∈ cs, u.oneCell' = true := by
  cases k with
  | zero => exact h.elim
  | succ k => obtain ⟨A, m, cp, A1, m1, cp1, A2, m2, cp2, rfl, _⟩ := h; intro u hu; simp at hu; rcases hu with rfl | rfl | rfl | rfl | rfl | rfl | rfl <;> rfl
def REs (k : Nat) := RSl (RE k) 4
def RSs (k : Nat) := RSl (RS k) 7
theorem REs.mono {k : Nat} {I I' : Hp} {A : Option Addr} {n cp : Nat} {ds : List Ex} (h : REs k I A n cp ds) (l : I.le I') : REs k I' A n cp ds := RSl.mono h l fun _ _ _ r => r.mono l
theorem RSs.mono {k : Nat} {I I' : Hp} {A : Option Addr} {n cp : Nat} {ds : List St} (h : RSs k I A n cp ds) (l : I.le I') : RSs k I' A n cp ds := RSl.mono h l fun _ _ _ r => r.mono l
/-- An expression, a statement, opened. -/
theorem RE.open {k : Nat} {I : Hp} {cs : List Value} {x : Ex} (h : RE k I cs x) : ∃ A m cp, cs = [.int .i64 x.op, .int .i64 x.n, .string x.s, .slice A m cp] ∧ REs (k - 1) I A m cp x.x := by
  cases k with
  | zero => exact h.elim
  | succ k => exact h
theorem RS.open {k : Nat} {I : Hp} {cs : List Value} {x : St} (h : RS k I cs x) : ∃ A m cp A1 m1 cp1 A2 m2 cp2, cs = [.int .i64 x.op, .string x.s, .int .i64 x.n, .slice A m cp, .slice A1 m1 cp1, .slice A2 m2 cp2, .bool x.commit] ∧
    REs (k - 1) I A m cp x.e ∧ RSs (k - 1) I A1 m1 cp1 x.body ∧ RSs (k - 1) I A2 m2 cp2 x.els := by
  cases k with
  | zero => exact h.elim
  | succ k => exact h
theorem REs.more {k k' : Nat} {I : Hp} {A : Option Addr} {n cp : Nat} {ds : List Ex} (h : REs k I A n cp ds) (l : k ≤ k') : REs k' I A n cp ds := RSl.imp h fun _ _ _ r => r.more l
theorem RSs.more {k k' : Nat} {I : Hp} {A : Option Addr} {n cp : Nat} {ds : List St} (h : RSs k I A n cp ds) (l : k ≤ k') : RSs k' I A n cp ds := RSl.imp h fun _ _ _ r => r.more l
def RPc (k : Nat) (I : Hp) (cs : List Value) (x : Pc) : Prop := ∃ A m cp, cs = [.string x.name, .slice A m cp] ∧ RSs k I A m cp x.body
def ROc (k : Nat) (I : Hp) (cs : List Value) (x : Oc) : Prop := ∃ A m cp, cs = [.string x.name, .int .i64 x.e.op, .int .i64 x.e.n, .string x.e.s, .slice A m cp] ∧ RE k I [.int .i64 x.e.op, .int .i64 x.e.n, .string x.e.s, .slice A m cp] x.e
/-- A list of statements that is an element of a slice. -/
def RSx (k : Nat) (I : Hp) (cs : List Value) (x : List St) : Prop := ∃ A m cp, cs = [.slice A m cp] ∧ RSs k I A m cp x
theorem RSx.mono {k : Nat} {I I' : Hp} {cs : List Value} {x : List St} (l : I.le I') : RSx k I cs x → RSx k I' cs x := fun ⟨A, m, cp, e, h⟩ => ⟨A, m, cp, e, h.mono l⟩
def RSxs (k : Nat) := RSl (RSx k) 1
theorem RSxs.mono {k : Nat} {I I' : Hp} {A : Option Addr} {n cp : Nat} {ds : List (List St)} (h : RSxs k I A n cp ds) (l : I.le I') : RSxs k I' A n cp ds := RSl.mono h l fun _ _ _ r => r.mono l
def RPg (k : Nat) (I : Hp) (cs : List Value) (x : Pg) : Prop := ∃ A m cp A1 m1 cp1 A2 m2 cp2 A3 m3 cp3, cs = [.slice A m cp, .slice A1 m1 cp1, .slice A2 m2 cp2, .slice A3 m3 cp3] ∧
  RSl (RPc k) 2 I A m cp x.procs ∧ RSs k I A1 m1 cp1 x.main ∧ RSs k I A2 m2 cp2 x.recover ∧ RSl (ROc k) 5 I A3 m3 cp3 x.oracles
theorem RPc.len {k : Nat} {I : Hp} {cs : List Value} {x : Pc} : RPc k I cs x → cs.length = 2 := fun ⟨_, _, _, e, _⟩ => by rw [e]; rfl
theorem RPc.one {k : Nat} {I : Hp} {cs : List Value} {x : Pc} : RPc k I cs x → ∀ u ∈ cs, u.oneCell' = true := fun ⟨_, _, _, e, _⟩ => by rw [e]; intro u hu; simp at hu; rcases hu with rfl | rfl <;> rfl
theorem ROc.len {k : Nat} {I : Hp} {cs : List Value} {x : Oc} : ROc k I cs x → cs.length = 5 := fun ⟨_, _, _, e, _⟩ => by rw [e]; rfl
theorem ROc.one {k : Nat} {I : Hp} {cs : List Value} {x : Oc} : ROc k I cs x → ∀ u ∈ cs, u.oneCell' = true := fun ⟨_, _, _, e, _⟩ => by rw [e]; intro u hu; simp at hu; rcases hu with rfl | rfl | rfl | rfl | rfl <;> rfl
theorem RPc.mono {k : Nat} {I I' : Hp} {cs : List Value} {x : Pc} (l : I.le I') : RPc k I cs x → RPc k I' cs x := fun ⟨A, m, cp, e, h⟩ => ⟨A, m, cp, e, h.mono l⟩
theorem ROc.mono {k : Nat} {I I' : Hp} {cs : List Value} {x : Oc} (l : I.le I') : ROc k I cs x → ROc k I' cs x := fun ⟨A, m, cp, e, h⟩ => ⟨A, m, cp, e, h.mono l⟩
def RPcs (k : Nat) := RSl (RPc k) 2
def ROcs (k : Nat) := RSl (ROc k) 5
theorem RPcs.mono {k : Nat} {I I' : Hp} {A : Option Addr} {n cp : Nat} {ds : List Pc} (h : RPcs k I A n cp ds) (l : I.le I') : RPcs k I' A n cp ds := RSl.mono h l fun _ _ _ r => RPc.mono l r
theorem ROcs.mono {k : Nat} {I I' : Hp} {A : Option Addr} {n cp : Nat} {ds : List Oc} (h : ROcs k I A n cp ds) (l : I.le I') : ROcs k I' A n cp ds := RSl.mono h l fun _ _ _ r => ROc.mono l r
theorem RPg.mono {k : Nat} {I I' : Hp} {cs : List Value} {x : Pg} (l : I.le I') : RPg k I cs x → RPg k I' cs x :=
  fun ⟨A, m, cp, A1, m1, cp1, A2, m2, cp2, A3, m3, cp3, e, h, h1, h2, h3⟩ => ⟨A, m, cp, A1, m1, cp1, A2, m2, cp2, A3, m3, cp3, e, h.mono l fun _ _ _ => RPc.mono l, h1.mono l, h2.mono l, h3.mono l fun _ _ _ => ROc.mono l⟩
end Go.Proofs.Ytlcdafeoionnhaa
