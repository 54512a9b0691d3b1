/- Rules for integers of whatever kind, for arrays in memory, and for bytes. -/
import Derived.Test.YtlcdafeoionnhaaAuto
import Derived.Laws.IdiomStrings
namespace Go.Proofs.Ytlcdafeoionnhaa
open Go
set_option linter.unusedSimpArgs false
set_option linter.unusedVariables false
def intZ (op : BinOp) (k : IntKind) (a b : Int) : Option Int :=
  match op with
  | .add => some (k.wrap (a + b))
  | .sub => some (k.wrap (a - b))
  | .mul => some (k.wrap (a * b))
  | .and => some (k.wrap (BitVec.ofInt k.bits a &&& BitVec.ofInt k.bits b).toNat)
  | .or => some (k.wrap (BitVec.ofInt k.bits a ||| BitVec.ofInt k.bits b).toNat)
  | .xor => some (k.wrap (BitVec.ofInt k.bits a ^^^ BitVec.ofInt k.bits b).toNat)
  | .andNot => some (k.wrap (BitVec.ofInt k.bits a &&& ~~~BitVec.ofInt k.bits b).toNat)
  | _ => none
def intB (op : BinOp) (a b : Int) : Option Bool :=
  match op with
  | .eql => some (decide (a = b))
  | .neq => some (!decide (a = b))
  | .lss => some (decide (a < b))
  | .leq => some (decide (a ≤ b))
  | .gtr => some (decide (b < a))
  | .geq => some (decide (b ≤ a))
  | _ => none
def arrO (P : Program) (T : TypeId) : Option (Nat × TypeId × Nat) :=
  match P.underlying T with
  | some (.array n e) => (P.info? e).map fun i => (n, e, i.size)
  | _ => none
theorem arrO_ok {P : Program} {T e : TypeId} {n sz : Nat} (h : arrO P T = some (n, e, sz)) : P.underlying T = some (.array n e) ∧ ∃ i, P.info? e = some i ∧ i.size = sz := by
  unfold arrO at h
  split at h
  · rename_i n' e' hu
    cases hi : P.info? e' with
    | none => rw [hi] at h; cases h
    | some i =>
      rw [hi] at h
      simp only [Option.map_some, Option.some.injEq, Prod.mk.injEq] at h
      obtain ⟨rfl, rfl, h3⟩ := h
      exact ⟨hu, i, hi, h3⟩
  · cases h
/-- From A on lie these bytes. -/
def Bytes (P : Program) (I : Hp) (L : List HP) (A : Option Addr) (l : List UInt8) : Prop := l = [] ∨ ∃ a, A = some a ∧ ∀ w h k, Sat L h → Rel I h k w → ∀ j (hj : j < l.length), w.cell? (a.add j) = some (.int .u8 (l[j].toNat : Int))
section
variable {c : Cx} {K : List Item} {E : List (Nat × Value)} {D : List Deferred} {I : Hp} {L : List HP} {ops : Array Oper} {i : Nat} {is : List Nat}
variable {dst : Option Nat} {ty : TypeId} {pos : String} {aft : Array Edge} {gd : Option (Nat × Bool)}
theorem JJ.intOp {op : BinOp} {t t' : TypeId} {x y : Operand} {k : IntKind} {a b u z : Int} (rg : Reg c.N ops) (ho : ops[i]? = some ⟨dst, .binOp op t x y t', ty, pos, aft, gd⟩) (hg : wants ops E gd = some true) (hx : evE E x = some (.int k a)) (hy : evE E y = some (.int k b)) (hv : intZ op k a b = some u) (hz : u = z)
    (hJ : JJ c (.inRegion ops is :: K) (putE dst (.int k z) E) D I L) : JJ c (.inRegion ops (i :: is) :: K) E D I L :=
  JJ.op0 rg ho hg (fun _ e => by cases e) (fun A w h kk hE _ _ => by
    refine ⟨.value (.int k z), ?_, .inl rfl⟩
    subst hz
    unfold intZ at hv
    split at hv <;> cases hv <;> simp [execOp, hE.ev hx, hE.ev hy, eqGuard, binOp, Op.intArith, Op.intBits]) hJ
theorem JJ.intCmp {op : BinOp} {t t' : TypeId} {x y : Operand} {k : IntKind} {a b : Int} {r : Bool} (rg : Reg c.N ops) (ho : ops[i]? = some ⟨dst, .binOp op t x y t', ty, pos, aft, gd⟩) (hg : wants ops E gd = some true) (hx : evE E x = some (.int k a)) (hy : evE E y = some (.int k b)) (hv : intB op a b = some r)
    (hJ : JJ c (.inRegion ops is :: K) (putE dst (.bool r) E) D I L) : JJ c (.inRegion ops (i :: is) :: K) E D I L :=
  JJ.op0 rg ho hg (fun _ e => by cases e) (fun A w h kk hE _ _ => by
    refine ⟨.value (.bool r), ?_, .inl rfl⟩
    unfold intB at hv
    split at hv <;> cases hv <;> (simp [execOp, hE.ev hx, hE.ev hy, eqGuard, binOp, Op.intCmp, bne, Bool.beq_eq_decide_eq]) <;> (try rfl) <;> (apply Bool.eq_iff_iff.2; simp)) hJ
theorem JJ.quo {t t' : TypeId} {x y : Operand} {k : IntKind} {a b z : Int} (rg : Reg c.N ops) (ho : ops[i]? = some ⟨dst, .binOp .quo t x y t', ty, pos, aft, gd⟩) (hg : wants ops E gd = some true) (hx : evE E x = some (.int k a)) (hy : evE E y = some (.int k b)) (h0 : b ≠ 0) (hz : k.wrap (a.tdiv b) = z)
    (hJ : JJ c (.inRegion ops is :: K) (putE dst (.int k z) E) D I L) : JJ c (.inRegion ops (i :: is) :: K) E D I L :=
  JJ.op0 rg ho hg (fun _ e => by cases e) (fun A w h kk hE _ _ => ⟨.value (.int k z), by simp [execOp, hE.ev hx, hE.ev hy, eqGuard, binOp, Op.intDiv, h0, hz], .inl rfl⟩) hJ
theorem JJ.rem {t t' : TypeId} {x y : Operand} {k : IntKind} {a b z : Int} (rg : Reg c.N ops) (ho : ops[i]? = some ⟨dst, .binOp .rem t x y t', ty, pos, aft, gd⟩) (hg : wants ops E gd = some true) (hx : evE E x = some (.int k a)) (hy : evE E y = some (.int k b)) (h0 : b ≠ 0) (hz : a.tmod b = z)
    (hJ : JJ c (.inRegion ops is :: K) (putE dst (.int k z) E) D I L) : JJ c (.inRegion ops (i :: is) :: K) E D I L :=
  JJ.op0 rg ho hg (fun _ e => by cases e) (fun A w h kk hE _ _ => ⟨.value (.int k z), by simp [execOp, hE.ev hx, hE.ev hy, eqGuard, binOp, Op.intDiv, h0, hz], .inl rfl⟩) hJ
theorem JJ.neg {t : TypeId} {x : Operand} {k : IntKind} {a z : Int} (rg : Reg c.N ops) (ho : ops[i]? = some ⟨dst, .unOp .neg t x, ty, pos, aft, gd⟩) (hg : wants ops E gd = some true) (hx : evE E x = some (.int k a)) (hz : k.wrap (0 - a) = z)
    (hJ : JJ c (.inRegion ops is :: K) (putE dst (.int k z) E) D I L) : JJ c (.inRegion ops (i :: is) :: K) E D I L :=
  JJ.op0 rg ho hg (fun _ e => by cases e) (fun A w h kk hE _ _ => ⟨.value (.int k z), by rw [← hz]; simp [execOp, hE.ev hx, Op.unary, Op.intArith], .inl rfl⟩) hJ
theorem JJ.indexArr {T e : TypeId} {n sz : Nat} {x y : Operand} {k : IntKind} {ix : Int} {a a' : Addr} (he : arrO c.P T = some (n, e, sz)) (rg : Reg c.N ops) (ho : ops[i]? = some ⟨dst, .indexAddr T x y, ty, pos, aft, gd⟩) (hg : wants ops E gd = some true)
    (hx : evE E x = some (.pointer (some a))) (hy : evE E y = some (.int k ix)) (h0 : 0 ≤ ix) (h1 : ix < n) (ha : a.add (ix.toNat * sz) = a')
    (hJ : JJ c (.inRegion ops is :: K) (putE dst (.pointer (some a')) E) D I L) : JJ c (.inRegion ops (i :: is) :: K) E D I L :=
  JJ.op0 rg ho hg (fun _ e => by cases e) (fun A w h k hE _ _ => by
    obtain ⟨hu, inf, hi, hn⟩ := arrO_ok he
    refine ⟨.value (.pointer (some a')), ?_, .inl rfl⟩
    simp [execOp, hE.ev hx, hE.ev hy, Instr.indexAt, Instr.sureAddr, asIntOf, underlying, hu, h0, h1, sizeOf, typeInfo, hi, hn, ha]) hJ
def isPtrT (P : Program) (T : TypeId) : Bool := match P.underlying T with | some (.pointer _) => true | _ => false
theorem ptr_equal {P : Program} {T : TypeId} {w : World} {p : Option Addr} (h : isPtrT P T = true) : (Op.equal T (.pointer p) (.pointer none)).run P w = .ok p.isNone w := by
  unfold isPtrT at h
  split at h
  · rename_i e hu
    have key : ∀ d : Nat, (Op.equalIn (d + 1) T (.pointer p) (.pointer none)).run P w = .ok p.isNone w := fun d => by
      cases p <;> simp [Op.equalIn, underlying, hu]
    exact key 9999
  · cases h
theorem JJ.ptrEq {t t' : TypeId} {x y : Operand} {p : Option Addr} (ht : isPtrT c.P t = true) (rg : Reg c.N ops) (ho : ops[i]? = some ⟨dst, .binOp .eql t x y t', ty, pos, aft, gd⟩) (hg : wants ops E gd = some true) (hx : evE E x = some (.pointer p)) (hy : evE E y = some (.pointer none))
    (hJ : JJ c (.inRegion ops is :: K) (putE dst (.bool p.isNone) E) D I L) : JJ c (.inRegion ops (i :: is) :: K) E D I L :=
  JJ.op0 rg ho hg (fun _ e => by cases e) (fun A w h k hE _ _ => ⟨.value (.bool p.isNone), by simp [execOp, hE.ev hx, hE.ev hy, eqGuard, binOp, ptr_equal ht], .inl rfl⟩) hJ
theorem JJ.ptrNe {t t' : TypeId} {x y : Operand} {p : Option Addr} (ht : isPtrT c.P t = true) (rg : Reg c.N ops) (ho : ops[i]? = some ⟨dst, .binOp .neq t x y t', ty, pos, aft, gd⟩) (hg : wants ops E gd = some true) (hx : evE E x = some (.pointer p)) (hy : evE E y = some (.pointer none))
    (hJ : JJ c (.inRegion ops is :: K) (putE dst (.bool p.isSome) E) D I L) : JJ c (.inRegion ops (i :: is) :: K) E D I L :=
  JJ.op0 rg ho hg (fun _ e => by cases e) (fun A w h k hE _ _ => ⟨.value (.bool p.isSome), by simp [execOp, hE.ev hx, hE.ev hy, eqGuard, binOp, ptr_equal ht], .inl rfl⟩) hJ
def bdV (E : List (Nat × Value)) (o : Option Operand) (d n : Nat) : Prop := match o with | none => n = d | some x => ∃ k, evE E x = some (.int k n)
theorem JJ.sliceArr {T e : TypeId} {n sz : Nat} {x : Operand} {lo hi : Option Operand} {a a' : Addr} {l h : Nat} (he : arrO c.P T = some (n, e, sz)) (rg : Reg c.N ops) (ho : ops[i]? = some ⟨dst, .slice T x lo hi none, ty, pos, aft, gd⟩) (hg : wants ops E gd = some true)
    (hx : evE E x = some (.pointer (some a))) (hlo : bdV E lo 0 l) (hhi : bdV E hi n h) (h1 : l ≤ h) (h2 : h ≤ n) (h3 : l < n) (ha : a.add (l * sz) = a')
    (hJ : JJ c (.inRegion ops is :: K) (putE dst (.slice (some a') (h - l) (n - l)) E) D I L) : JJ c (.inRegion ops (i :: is) :: K) E D I L :=
  JJ.op0 rg ho hg (fun _ e => by cases e) (fun A w hh k hE _ _ => by
    obtain ⟨hu, inf, hi', hn⟩ := arrO_ok he
    refine ⟨.value (.slice (some a') (h - l) (n - l)), ?_, .inl rfl⟩
    have e1 : ((h : Nat) : Int) ≤ (n : Int) := by omega
    have e2 : ((l : Nat) : Int) ≤ (h : Int) := by omega
    have e3 : (0 : Int) ≤ (h : Int) := by omega
    have e4 : (0 : Int) ≤ (l : Int) := by omega
    have e5 : ¬ n = l := by omega
    cases lo <;> cases hi <;> simp only [bdV] at hlo hhi
    · subst hlo; subst hhi
      rw [Nat.zero_mul] at ha
      simp [execOp, hE.ev hx, Instr.sliceAt, Instr.sureAddr, underlying, hu, Instr.sliceBounds, sizeOf, typeInfo, hi', hn, ha, e5]
    · subst hlo; obtain ⟨k1, hhi⟩ := hhi
      rw [Nat.zero_mul] at ha
      simp [execOp, hE.ev hx, hE.ev hhi, Instr.sliceAt, Instr.sureAddr, underlying, hu, Instr.sliceBounds, Instr.sliceBound, asIntOf, sizeOf, typeInfo, hi', hn, ha, e5, h2]
    · subst hhi; obtain ⟨k1, hlo⟩ := hlo
      simp [execOp, hE.ev hx, hE.ev hlo, Instr.sliceAt, Instr.sureAddr, underlying, hu, Instr.sliceBounds, Instr.sliceBound, asIntOf, sizeOf, typeInfo, hi', hn, ha, e5, h1]
    · obtain ⟨k1, hlo⟩ := hlo; obtain ⟨k2, hhi⟩ := hhi
      simp [execOp, hE.ev hx, hE.ev hlo, hE.ev hhi, Instr.sliceAt, Instr.sureAddr, underlying, hu, Instr.sliceBounds, Instr.sliceBound, asIntOf, sizeOf, typeInfo, hi', hn, ha, e5, h2, h1]) hJ
/-- string(b) -/
def bytesStrT (P : Program) (S T : TypeId) : Bool :=
  match P.underlying S, P.underlying T with
  | some (.slice e), some .string => (match P.underlying e with | some (.int .u8) => true | _ => false)
  | _, _ => false
theorem JJ.bytesStr {S T : TypeId} {x : Operand} {A : Option Addr} {n cp : Nat} {l : List UInt8} (hT : bytesStrT c.P S T = true) (rg : Reg c.N ops) (ho : ops[i]? = some ⟨dst, .convert S T x, ty, pos, aft, gd⟩) (hg : wants ops E gd = some true)
    (hx : evE E x = some (.slice A n cp)) (hn : n = l.length) (hb : Bytes c.P I L A l) (hJ : JJ c (.inRegion ops is :: K) (putE dst (.string ⟨l.toArray⟩) E) D I L) : JJ c (.inRegion ops (i :: is) :: K) E D I L :=
  JJ.op0 rg ho hg (fun _ e => by cases e) (fun A' w h k hE hS hR => by
    refine ⟨.value (.string ⟨l.toArray⟩), ?_, .inl rfl⟩
    unfold bytesStrT at hT
    split at hT
    · rename_i e hs hd
      split at hT
      · rename_i he
        subst hn
        rcases hb with rfl | ⟨a, rfl, hc⟩
        · cases A with
          | none => simp [execOp, hE.ev hx, convert, underlying, hs, hd, he, Conv.bytesToString]; rfl
          | some a =>
            have := run_convert_bytes_back (P := c.P) w S T e a cp [] hs he hd (fun j hj => absurd hj (by simp))
            simp only [List.length_nil] at this
            simp [execOp, hE.ev hx, this]
        · have := run_convert_bytes_back (P := c.P) w S T e a cp l hs he hd (hc w h k hS hR)
          simp [execOp, hE.ev hx, this]
      · cases hT
    · cases hT) hJ
end
def fldT (P : Program) (T : TypeId) (f : Nat) : Option (TypeId × Nat) := match P.underlying T with | some (.struct fs) => (fs[f]?).map fun f => (f.type, f.offset) | _ => none
theorem JJ.field {c : Cx} {K : List Item} {E : List (Nat × Value)} {D : List Deferred} {I : Hp} {L : List HP} {ops : Array Oper} {i : Nat} {is : List Nat} {dst : Option Nat} {ty : TypeId} {pos : String} {aft : Array Edge} {gd : Option (Nat × Bool)} {T U : TypeId} {f off : Nat} {x : Operand} {cs : Array Value} {v : Value} (hT : fldT c.P T f = some (U, off)) (hU : tyI c.P U = some (false, 1)) (rg : Reg c.N ops) (ho : ops[i]? = some ⟨dst, .field T x f, ty, pos, aft, gd⟩) (hg : wants ops E gd = some true)
    (hx : evE E x = some (.agg cs)) (hv : cs[off]? = some v) (hJ : JJ c (.inRegion ops is :: K) (putE dst v E) D I L) : JJ c (.inRegion ops (i :: is) :: K) E D I L :=
  JJ.op0 rg ho hg (fun _ e => by cases e) (fun A w h kk hE hS hR => by
    refine ⟨.value v, ?_, .inl rfl⟩
    unfold fldT at hT
    split at hT
    · rename_i fs hu
      cases hf : fs[f]? with
      | none => rw [hf] at hT; cases hT
      | some g =>
        rw [hf] at hT
        simp only [Option.map_some, Option.some.injEq, Prod.mk.injEq] at hT
        obtain ⟨rfl, rfl⟩ := hT
        simp [execOp, hE.ev hx, Instr.field, underlying, hu, hf, asAgg, part, tyI_agg hU, hv]
    · cases hT) hJ
theorem Bytes.ofBlk {P : Program} {I : Hp} {L : List HP} {b off : Nat} {C : List Value} {U : TypeId} {fz : Nat × Nat} {l : List UInt8} (j : Nat) (hj : L[j]? = some (blk b (.cells C.toArray U fz))) (hl : (C.drop off).take l.length = l.map fun b => Value.int .u8 (b.toNat : Int)) : Bytes P I L (some ⟨b, off, none⟩) l := by
  refine .inr ⟨_, rfl, fun w h k hS hR q hq => ?_⟩
  obtain ⟨hh, h2, l1, _, _, hb, _⟩ := hS.pull j hj
  refine (Row.of hb off).cell (hR.hon.mono l1) ?_
  have h9 : (l.map fun b => Value.int .u8 (b.toNat : Int))[q]? = some (.int .u8 (l[q].toNat : Int)) := by
    rw [List.getElem?_map, List.getElem?_eq_getElem hq]; rfl
  rw [← hl, List.getElem?_take, if_pos hq] at h9
  exact h9
theorem Bytes.ofOwn {P : Program} {I : Hp} {L : List HP} {e : TypeId} {g n cp off : Nat} {xs : List Value} {l : List UInt8} (j : Nat) (hj : L[j]? = some (own e 1 (some ⟨g, 0, none⟩) n cp xs)) (hl : (xs.drop off).take l.length = l.map fun b => Value.int .u8 (b.toNat : Int)) : Bytes P I L (some ⟨g, off, none⟩) l := by
  refine .inr ⟨_, rfl, fun w h k hS hR q hq => ?_⟩
  obtain ⟨hh, h2, l1, _, _, ⟨hln, ho⟩, _⟩ := hS.pull j hj
  rcases ho with ⟨hA, _⟩ | ⟨g', cur, hA, hb, hnc, hcs, htk⟩
  · cases hA
  · cases hA
    have hr : Row hh ⟨g, off, none⟩ (xs.drop off) := by
      refine ⟨rfl, cur, e, (0, 0), hb, fun jj u hu => ?_⟩
      rw [List.getElem?_drop, ← htk, List.getElem?_take] at hu
      split at hu
      · simpa using hu
      · cases hu
    refine hr.cell (hR.hon.mono l1) ?_
    have h9 : (l.map fun b => Value.int .u8 (b.toNat : Int))[q]? = some (.int .u8 (l[q].toNat : Int)) := by
      rw [List.getElem?_map, List.getElem?_eq_getElem hq]; rfl
    rw [← hl, List.getElem?_take, if_pos hq] at h9
    exact h9
theorem Bytes.ofRow {P : Program} {I : Hp} {L : List HP} {a : Addr} {vs : List Value} {l : List UInt8} (hr : Row I a vs) (hl : vs.take l.length = l.map fun b => Value.int .u8 (b.toNat : Int)) : Bytes P I L (some a) l := by
  refine .inr ⟨_, rfl, fun w h k hS hR q hq => ?_⟩
  refine hr.cell hR.Ion ?_
  have h9 : (l.map fun b => Value.int .u8 (b.toNat : Int))[q]? = some (.int .u8 (l[q].toNat : Int)) := by
    rw [List.getElem?_map, List.getElem?_eq_getElem hq]; rfl
  rw [← hl, List.getElem?_take, if_pos hq] at h9
  exact h9
end Go.Proofs.Ytlcdafeoionnhaa
