/- How many parts a script has. -/
import Derived.Test.YtlcdafeoionnhaaData
namespace Go.Proofs.Ytlcdafeoionnhaa
open Go
mutual
def Ex.sz : Ex → Nat | .mk _ _ _ x => Ex.szl x + 1
def Ex.szl : List Ex → Nat | [] => 0 | a :: l => a.sz + Ex.szl l
end
mutual
def St.sz : St → Nat | .mk _ _ _ e b f _ => Ex.szl e + St.szl b + St.szl f + 1
def St.szl : List St → Nat | [] => 0 | a :: l => a.sz + St.szl l
end
def Pc.sz (x : Pc) : Nat := St.szl x.body + 1
def Pc.szl : List Pc → Nat | [] => 0 | a :: l => a.sz + Pc.szl l
def Oc.sz (x : Oc) : Nat := x.e.sz + 1
def Oc.szl : List Oc → Nat | [] => 0 | a :: l => a.sz + Oc.szl l
def Pg.sz (p : Pg) : Nat := Pc.szl p.procs + St.szl p.main + St.szl p.recover + Oc.szl p.oracles
theorem Ex.sz_eq (x : Ex) : x.sz = Ex.szl x.x + 1 := by cases x; rfl
theorem St.sz_eq (x : St) : x.sz = Ex.szl x.e + St.szl x.body + St.szl x.els + 1 := by cases x; rfl
theorem Ex.szl_mem {x : Ex} : ∀ {l : List Ex}, x ∈ l → x.sz ≤ Ex.szl l
  | a :: l, h => by
    simp only [Ex.szl]
    rcases List.mem_cons.1 h with rfl | h
    · omega
    · have := Ex.szl_mem h; omega
theorem St.szl_mem {x : St} : ∀ {l : List St}, x ∈ l → x.sz ≤ St.szl l
  | a :: l, h => by
    simp only [St.szl]
    rcases List.mem_cons.1 h with rfl | h
    · omega
    · have := St.szl_mem h; omega
theorem Pc.szl_mem {x : Pc} : ∀ {l : List Pc}, x ∈ l → x.sz ≤ Pc.szl l
  | a :: l, h => by
    simp only [Pc.szl]
    rcases List.mem_cons.1 h with rfl | h
    · omega
    · have := Pc.szl_mem h; omega
theorem Oc.szl_mem {x : Oc} : ∀ {l : List Oc}, x ∈ l → x.sz ≤ Oc.szl l
  | a :: l, h => by
    simp only [Oc.szl]
    rcases List.mem_cons.1 h with rfl | h
    · omega
    · have := Oc.szl_mem h; omega
theorem Ex.szl_len : ∀ (l : List Ex), l.length ≤ Ex.szl l
  | [] => by simp [Ex.szl]
  | a :: l => by have := Ex.szl_len l; have := a.sz_eq; simp only [Ex.szl, List.length_cons]; omega
theorem St.szl_len : ∀ (l : List St), l.length ≤ St.szl l
  | [] => by simp [St.szl]
  | a :: l => by have := St.szl_len l; have := a.sz_eq; simp only [St.szl, List.length_cons]; omega
theorem Pc.szl_len : ∀ (l : List Pc), l.length ≤ Pc.szl l
  | [] => by simp [Pc.szl]
  | a :: l => by have := Pc.szl_len l; have : a.sz = St.szl a.body + 1 := rfl; simp only [Pc.szl, List.length_cons]; omega
theorem Oc.szl_len : ∀ (l : List Oc), l.length ≤ Oc.szl l
  | [] => by simp [Oc.szl]
  | a :: l => by have := Oc.szl_len l; have : a.sz = a.e.sz + 1 := rfl; simp only [Oc.szl, List.length_cons]; omega
end Go.Proofs.Ytlcdafeoionnhaa
