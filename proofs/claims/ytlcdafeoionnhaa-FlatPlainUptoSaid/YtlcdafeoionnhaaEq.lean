/- Equality of structs of two whole numbers. -/
import Derived.Test.YtlcdafeoionnhaaScope
import Derived.Laws.StructEq
namespace Go.Proofs.Ytlcdafeoionnhaa
open Go
set_option linter.unusedVariables false
set_option linter.unusedSimpArgs false
def intT (P : Program) (T : TypeId) : Bool := match P.underlying T with | some (.int _) => true | _ => false
theorem intT_ok {P : Program} {T : TypeId} (h : intT P T = true) : ∃ k, P.underlying T = some (.int k) := by
  unfold intT at h
  split at h
  · rename_i k hk; exact ⟨k, hk⟩
  · cases h
/-- A struct of two whole numbers. -/
def pairT (P : Program) (T : TypeId) : Bool :=
  match P.underlying T with
  | some (.struct fs) => match fs.toList with
    | [f, g] => (!(f.name == "_")) && (!(g.name == "_")) && Nat.beq f.offset 0 && Nat.beq g.offset 1 && intT P f.type && intT P g.type && !P.stoodInHeld T && !P.eqGuardType P.depth T
    | _ => false
  | _ => false
theorem part_int {P : Program} {T : TypeId} {w : World} {cs : Array Value} {off : Nat} {v : Value} (h : intT P T = true) (hv : cs[off]? = some v) : (part T cs off).run P w = .ok v w := by
  obtain ⟨k, hk⟩ := intT_ok h
  simp [part, isAgg, underlying, hk, hv]
theorem equal_pair {P : Program} {T : TypeId} {w : World} {a b c d : Int} (h : pairT P T = true) : (Op.equalIn 10000 T (.agg #[.int .i64 a, .int .i64 b]) (.agg #[.int .i64 c, .int .i64 d])).run P w = .ok (decide ((a, b) = (c, d))) w := by
  unfold pairT at h
  split at h
  · rename_i fs hu
    split at h
    · rename_i f g hfg
      simp only [Bool.and_eq_true, Bool.not_eq_true', Nat.beq_eq_true_eq, beq_eq_false_iff_ne] at h
      obtain ⟨⟨⟨⟨⟨⟨⟨n1, n2⟩, o1⟩, o2⟩, t1⟩, t2⟩, hs⟩, _⟩ := h
      have o1 : f.offset = 0 := by simpa using o1
      have o2 : g.offset = 1 := by simpa using o2
      obtain ⟨k1, hk1⟩ := intT_ok t1
      obtain ⟨k2, hk2⟩ := intT_ok t2
      have hf : P.fieldsOf T = fs := by simp [Program.fieldsOf, hu]
      have key : ∀ dd : Nat, (Op.equalIn (dd + 2) T (.agg #[.int .i64 a, .int .i64 b]) (.agg #[.int .i64 c, .int .i64 d])).run P w = .ok (decide ((a, b) = (c, d))) w := fun dd => by
        rw [run_equalIn_struct w (dd + 1) T _ _ (by rw [hf]; exact hu) hs, hf, hfg]
        simp only [Op.eqFields, if_pos n1, if_pos n2, Sem.run_bind, o1, o2]
        rw [part_int t1 (v := .int .i64 a) rfl]
        simp only [Result.andThen_ok]
        rw [part_int t1 (v := .int .i64 c) rfl]
        simp only [Result.andThen_ok]
        rw [run_equalIn_int w dd f.type .i64 k1 a c hk1]
        simp only [Result.andThen_ok]
        by_cases h1 : a = c
        · subst h1
          simp only [beq_self_eq_true, Bool.not_true, Bool.false_eq_true, if_false, Sem.run_bind]
          rw [part_int t2 (v := .int .i64 b) rfl]
          simp only [Result.andThen_ok]
          rw [part_int t2 (v := .int .i64 d) rfl]
          simp only [Result.andThen_ok]
          rw [run_equalIn_int w dd g.type .i64 k2 b d hk2]
          simp only [Result.andThen_ok]
          by_cases h2 : b = d
          · subst h2; simp
          · simp [h2]
        · simp [h1]
      exact key 9998
    · cases h
  · cases h
theorem pair_guard {P : Program} {T : TypeId} (h : pairT P T = true) : P.eqGuardType P.depth T = false := by
  unfold pairT at h
  split at h
  · split at h
    · simp only [Bool.and_eq_true, Bool.not_eq_true'] at h; exact h.2
    · cases h
  · cases h
section
variable {c : Cx} {K : List Item} {E : List (Nat × Value)} {D : List Deferred} {I : Hp} {L : List HP} {ops : Array Oper} {i : Nat} {is : List Nat}
variable {dst : Option Nat} {ty : TypeId} {pos : String} {aft : Array Edge} {gd : Option (Nat × Bool)}
theorem JJ.eqPair {t t' : TypeId} {x y : Operand} {a b a' b' : Int} (ht : pairT c.P t = true) (rg : Reg c.N ops) (ho : ops[i]? = some ⟨dst, .binOp .eql t x y t', ty, pos, aft, gd⟩) (hg : wants ops E gd = some true) (hx : evE E x = some (.agg #[.int .i64 a, .int .i64 b])) (hy : evE E y = some (.agg #[.int .i64 a', .int .i64 b']))
    (hJ : JJ c (.inRegion ops is :: K) (putE dst (.bool (decide ((a, b) = (a', b')))) E) D I L) : JJ c (.inRegion ops (i :: is) :: K) E D I L :=
  JJ.op0 rg ho hg (fun _ e => by cases e) (fun A w h k hE _ _ => by
    refine ⟨.value (.bool (decide ((a, b) = (a', b')))), ?_, .inl rfl⟩
    simp [execOp, hE.ev hx, hE.ev hy, run_eqGuard_agg w _ t x y _ _ (pair_guard ht), run_eql_struct w t, equal_pair ht]) hJ
theorem JJ.nePair {t t' : TypeId} {x y : Operand} {a b a' b' : Int} (ht : pairT c.P t = true) (rg : Reg c.N ops) (ho : ops[i]? = some ⟨dst, .binOp .neq t x y t', ty, pos, aft, gd⟩) (hg : wants ops E gd = some true) (hx : evE E x = some (.agg #[.int .i64 a, .int .i64 b])) (hy : evE E y = some (.agg #[.int .i64 a', .int .i64 b']))
    (hJ : JJ c (.inRegion ops is :: K) (putE dst (.bool (!decide ((a, b) = (a', b')))) E) D I L) : JJ c (.inRegion ops (i :: is) :: K) E D I L :=
  JJ.op0 rg ho hg (fun _ e => by cases e) (fun A w h k hE _ _ => by
    refine ⟨.value (.bool (!decide ((a, b) = (a', b')))), ?_, .inl rfl⟩
    simp [execOp, hE.ev hx, hE.ev hy, run_eqGuard_agg w _ t x y _ _ (pair_guard ht), run_neq_struct w t, equal_pair ht]) hJ
end
/-! ### A slice of one's own, cut short -/
theorem own_less {e : TypeId} {sz : Nat} {A : Option Addr} {n h cp : Nat} {xs : List Value} (hh : h ≤ n) {hp : Hp} (o : own e sz A n cp xs hp) : own e sz A h cp (xs.take (h * sz)) hp := by
  obtain ⟨hl, hc⟩ := o
  have hm : h * sz ≤ n * sz := Nat.mul_le_mul_right _ hh
  refine ⟨by rw [List.length_take]; omega, ?_⟩
  rcases hc with ⟨rfl, rfl, rfl⟩ | ⟨g, cur, rfl, hb, hn, hs, ht⟩
  · exact .inl ⟨rfl, by omega, rfl⟩
  · exact .inr ⟨g, cur, rfl, hb, by omega, hs, by rw [← ht, List.take_take, Nat.min_eq_left hm]⟩
section
variable {c : Cx} {K : List Item} {E : List (Nat × Value)} {D : List Deferred} {I : Hp} {L : List HP} {ops : Array Oper} {i : Nat} {is : List Nat}
variable {dst : Option Nat} {ty : TypeId} {pos : String} {aft : Array Edge} {gd : Option (Nat × Bool)}
theorem JJ.cutSlice {T e : TypeId} {sz : Nat} (hT : elemO c.P T = some (e, sz)) {x y : Operand} {g n cp h : Nat} (rg : Reg c.N ops) (ho : ops[i]? = some ⟨dst, .slice T x none (some y) none, ty, pos, aft, gd⟩) (hg : wants ops E gd = some true)
    (hx : evE E x = some (.slice (some ⟨g, 0, none⟩) n cp)) (hy : evE E y = some (.int .i64 h)) (hh : h ≤ cp)
    (hJ : JJ c (.inRegion ops is :: K) (putE dst (.slice (some ⟨g, 0, none⟩) h cp) E) D I L) : JJ c (.inRegion ops (i :: is) :: K) E D I L :=
  JJ.op0 rg ho hg (fun _ e => by cases e) (fun A w hp k hE _ _ => by
    obtain ⟨hu, inf, hi, hn⟩ := elemO_ok hT
    refine ⟨.value (.slice (some ⟨g, 0, none⟩) h cp), ?_, .inl rfl⟩
    have h1 : ((h : Nat) : Int) ≤ (cp : Int) := by omega
    have h2 : (0 : Int) ≤ (h : Int) := by omega
    simp [execOp, hE.ev hx, hE.ev hy, Instr.sliceAt, Instr.slice, underlying, hu, Instr.sliceBounds, Instr.sliceBound, asIntOf, sizeOf, typeInfo, hi, hn, h1, h2, hh, Addr.add]) hJ
end
end Go.Proofs.Ytlcdafeoionnhaa
