/- The judgement's rules for the operations of a region. -/
import Derived.Test.YtlcdafeoionnhaaBase
import Derived.Lib.Strings
namespace Go.Proofs.Ytlcdafeoionnhaa
open Go
set_option linter.unusedSimpArgs false
set_option linter.unusedVariables false

/-- Is an operation wanted (its guard)? none: not known. -/
def wants (ops : Array Oper) (E : List (Nat × Value)) : Option (Nat × Bool) → Option Bool
  | none => some true
  | some (j, b) =>
    match (ops[j]?).bind (·.dst) with
    | none => some false
    | some d => match get E d with
      | some (.bool x) => some (x == b)
      | some (.tuple _) => some false
      | _ => none
theorem wants_true {ops : Array Oper} {N : Nat} {a : Act} {E : List (Nat × Value)} {D : List Deferred} {o : Oper} {x : Bool} (hE : Env N a E D) (hN : ∀ (j d : Nat), (ops[j]?).bind (fun o : Oper => o.dst) = some d → d < N) (h : wants ops E o.guard = some x) : Region.wanted o (yielded ops a.tmps) = x := by
  unfold Region.wanted
  cases hg : o.guard with
  | none => rw [hg] at h; simpa [wants] using h
  | some p =>
    obtain ⟨j, b⟩ := p
    rw [hg] at h
    simp only [wants] at h
    simp only [yielded]
    cases hd : (ops[j]?).bind (·.dst) with
    | none => rw [hd] at h; simp at h; simp [h]
    | some d =>
      rw [hd] at h
      dsimp only at h
      simp only [Option.bind_some]
      have hlt : d < a.tmps.size := hE.size ▸ hN j d hd
      cases hv : get E d with
      | none => rw [hv] at h; cases h
      | some v =>
        have := hE.vals d v hv
        rw [Array.getD_eq_getD_getElem?] at this
        rw [hv] at h
        cases v with
        | bool y =>
          simp only [Option.some.injEq] at h
          have e : a.tmps[d]? = some (.bool y) := by
            rw [Array.getElem?_eq_getElem hlt] at this ⊢; simpa using this
          rw [e]
          subst h
          cases y <;> cases b <;> rfl
        | tuple vs =>
          simp only [Option.some.injEq] at h
          have e : a.tmps[d]? = some (.tuple vs) := by
            rw [Array.getElem?_eq_getElem hlt] at this ⊢; simpa using this
          rw [e]
          subst h
          cases b <;> rfl
        | _ => cases h
def okD (N : Nat) : Option Nat → Bool
  | none => true
  | some d => Nat.blt d N
/-- Every place that a region writes is a temporary of the function. -/
def okR (N : Nat) (ops : Array Oper) : Bool := ops.toList.all fun o => okD N o.dst
theorem okR_lt {N : Nat} {ops : Array Oper} (h : okR N ops = true) : ∀ (j d : Nat), (ops[j]?).bind (fun o : Oper => o.dst) = some d → d < N := by
  intro j d e
  cases ho : ops[j]? with
  | none => rw [ho] at e; cases e
  | some o =>
    rw [ho] at e
    have hm : o ∈ ops.toList := by
      have := Array.mem_of_getElem? ho
      simpa using this
    have := List.all_eq_true.1 h o hm
    simp only [Option.bind_some] at e
    rw [e] at this
    simpa [okD, Nat.blt_eq] using this
theorem okR_ok {N : Nat} {ops : Array Oper} (h : okR N ops = true) {i : Nat} {o : Oper} (ho : ops[i]? = some o) : okD N o.dst = true := by
  have hm : o ∈ ops.toList := by
    have := Array.mem_of_getElem? ho
    simpa using this
  exact List.all_eq_true.1 h o hm
def putE (dst : Option Nat) (v : Value) (E : List (Nat × Value)) : List (Nat × Value) :=
  match dst with
  | some d => (d, v) :: E
  | none => E
theorem Env.putE {N : Nat} {a : Act} {E : List (Nat × Value)} {D : List Deferred} (h : Env N a E D) {dst : Option Nat} (hd : okD N dst = true) (v : Value) : Env N (a.put dst v) (putE dst v E) D := by
  cases dst with
  | none => exact h
  | some d => exact h.put hd v
/-- A region under way: what is left of it. -/
structure Reg (N : Nat) (ops : Array Oper) : Prop where
  ok : okR N ops = true
def nextIs (n : Next) (v : Value) : Prop := n = .value v ∨ (n = .skip ∧ v = undef)
section
variable {c : Cx} {K : List Item} {E : List (Nat × Value)} {D : List Deferred} {I : Hp} {L : List HP} {ops : Array Oper} {i : Nat} {is : List Nat}
theorem steps_op {f : FuncId} {ro : Option Nat} {P : Program} {a : Act} {w w' : World} {o : Oper} {n : Next} {v : Value} (ho : ops[i]? = some o) (hw : Region.wanted o (yielded ops a.tmps) = true) (hdf : ∀ c, o.op ≠ .defer c)
    (hr : (execOp a.eval o).run P w = .ok n w') (hn : nextIs n v) (cs : List Frame) :
    Steps P (lone (fram f ro (.inRegion ops (i :: is) :: K) a) cs w) (lone (fram f ro (.inRegion ops is :: K) (a.put o.dst v)) cs w') := by
  refine .one (step_lone_go ?_)
  rw [fram_eq, fram_eq]
  have hg := stepGR_op (P := P) (b := { (default : Frame) with fn := f, kind := .normal, roundOf := ro }) (a := a) (k := K) (cs := cs) (w := w) (rest := is) ho hw
  rw [hg, Oper.semAt_eq _ _ _ hdf]
  have hfin := Frame.finish_atR { (default : Frame) with fn := f, kind := .normal, roundOf := ro } a ops i is K v
  rw [ho] at hfin
  simp only [Option.bind_some] at hfin
  rcases hn with rfl | ⟨rfl, rfl⟩ <;> simp [stepG.apply, hr, ← hfin]
theorem steps_skip {f : FuncId} {ro : Option Nat} {P : Program} {a : Act} {w : World} {o : Oper} (ho : ops[i]? = some o) (hw : Region.wanted o (yielded ops a.tmps) = false) (cs : List Frame) :
    Steps P (lone (fram f ro (.inRegion ops (i :: is) :: K) a) cs w) (lone (fram f ro (.inRegion ops is :: K) (a.put o.dst undef)) cs w) := by
  rw [fram_eq, fram_eq]
  have := stepR_op_skip (P := P) (b := { (default : Frame) with fn := f, kind := .normal, roundOf := ro }) (a := a) (k := K) (cs := cs) (w := w) (ops := ops) (i := i) (rest := is) (by simp [ho, hw])
  rw [ho] at this
  exact .one this
/-- One operation, whatever it does. -/
theorem JJ.op {X : Type} {I' : X → Hp} {L' : X → List HP} {o : Oper} (rg : Reg c.N ops) (ho : ops[i]? = some o) (hg : wants ops E o.guard = some true) (hdf : ∀ c, o.op ≠ .defer c) (Φ : X → Prop) (v : X → Value)
    (hs : ∀ a w h k, Env c.N a E D → Sat L h → Rel I h k w → ∃ x n w' h', Φ x ∧ (execOp a.eval o).run c.P w = .ok n w' ∧ nextIs n (v x) ∧ Sat (L' x) h' ∧ Rel (I' x) h' k w' ∧ I.le (I' x) ∧ Os w w')
    (hJ : ∀ x, Φ x → JJ c (.inRegion ops is :: K) (putE o.dst (v x) E) D (I' x) (L' x)) : JJ c (.inRegion ops (i :: is) :: K) E D I L :=
  JJ.turn (D' := fun _ => D) Φ (fun a w h k hE hS hR => by
    obtain ⟨x, n, w', h', hx, hr, hn, hS', hR', hl, hos⟩ := hs a w h k hE hS hR
    exact ⟨x, a.put o.dst (v x), w', h', hx, hE.putE (okR_ok rg.ok ho) _, hS', hR', hl, hos, fun cs => steps_op ho (wants_true hE (okR_lt rg.ok) hg) hdf hr hn cs⟩) hJ
/-- One operation that leaves memory alone. -/
theorem JJ.op0 {o : Oper} {v : Value} (rg : Reg c.N ops) (ho : ops[i]? = some o) (hg : wants ops E o.guard = some true) (hdf : ∀ c, o.op ≠ .defer c)
    (hs : ∀ a w h k, Env c.N a E D → Sat L h → Rel I h k w → ∃ n, (execOp a.eval o).run c.P w = .ok n w ∧ nextIs n v)
    (hJ : JJ c (.inRegion ops is :: K) (putE o.dst v E) D I L) : JJ c (.inRegion ops (i :: is) :: K) E D I L :=
  JJ.op (X := Unit) (I' := fun _ => I) (L' := fun _ => L) rg ho hg hdf (fun _ => True) (fun _ => v)
    (fun a w h k hE hS hR => let ⟨n, hr, hn⟩ := hs a w h k hE hS hR; ⟨(), n, w, h, trivial, hr, hn, hS, hR, .refl _, .refl _⟩) fun _ _ => hJ
/-- An operation whose guard says no. -/
theorem JJ.gskip {o : Oper} (rg : Reg c.N ops) (ho : ops[i]? = some o) (hg : wants ops E o.guard = some false)
    (hJ : JJ c (.inRegion ops is :: K) (putE o.dst undef E) D I L) : JJ c (.inRegion ops (i :: is) :: K) E D I L :=
  JJ.turn0 (fun a _ _ _ hE _ _ => ⟨a.put o.dst undef, hE.putE (okR_ok rg.ok ho) _, fun cs => steps_skip ho (wants_true hE (okR_lt rg.ok) hg) cs⟩) hJ
/-- A region is entered, and left. -/
theorem JJ.region {id : Nat} (hok : okR c.N ops = true) (h : Reg c.N ops → JJ c (.inRegion ops (List.range' 0 ops.size) :: K) E D I L) : JJ c (.code (.region id ops false) :: K) E D I L :=
  JJ.turn0 (fun a _ _ _ hE _ _ => ⟨a, hE, fun cs => .one (by rw [fram_eq, fram_eq, ← List.range_eq_range']; exact stepR_region)⟩) (h ⟨hok⟩)
theorem JJ.regionEnd (h : JJ c K E D I L) : JJ c (.inRegion ops [] :: K) E D I L :=
  JJ.turn0 (fun a _ _ _ hE _ _ => ⟨a, hE, fun cs => .one (by rw [fram_eq, fram_eq]; exact stepR_region_end)⟩) h

/-! ### Operations that only compute -/
variable {dst : Option Nat} {ty : TypeId} {pos : String} {aft : Array Edge} {gd : Option (Nat × Bool)}
theorem JJ.move {x : Operand} {v : Value} (rg : Reg c.N ops) (ho : ops[i]? = some ⟨dst, .move x, ty, pos, aft, gd⟩) (hg : wants ops E gd = some true) (hx : evE E x = some v)
    (hJ : JJ c (.inRegion ops is :: K) (putE dst v E) D I L) : JJ c (.inRegion ops (i :: is) :: K) E D I L :=
  JJ.op0 rg ho hg (fun _ e => by cases e) (fun a w h k hE _ _ => ⟨_, rfl, .inl (by rw [hE.ev hx])⟩) hJ
theorem JJ.assign {x : Operand} {v : Value} (rg : Reg c.N ops) (ho : ops[i]? = some ⟨dst, .assign x, ty, pos, aft, gd⟩) (hg : wants ops E gd = some true) (hx : evE E x = some v)
    (hJ : JJ c (.inRegion ops is :: K) (putE dst v E) D I L) : JJ c (.inRegion ops (i :: is) :: K) E D I L :=
  JJ.op0 rg ho hg (fun _ e => by cases e) (fun a w h k hE _ _ => ⟨_, rfl, .inl (by rw [hE.ev hx])⟩) hJ
theorem JJ.pick {x y z : Operand} {b : Bool} {v : Value} (rg : Reg c.N ops) (ho : ops[i]? = some ⟨dst, .pick x y z, ty, pos, aft, gd⟩) (hg : wants ops E gd = some true) (hx : evE E x = some (.bool b)) (hv : (bif b then evE E y else evE E z) = some v)
    (hJ : JJ c (.inRegion ops is :: K) (putE dst v E) D I L) : JJ c (.inRegion ops (i :: is) :: K) E D I L :=
  JJ.op0 rg ho hg (fun _ e => by cases e) (fun a w h k hE _ _ => by
    refine ⟨.value v, ?_, .inl rfl⟩
    simp only [execOp, hE.ev hx, asBool]
    cases b with
    | true => simp only [cond_true] at hv; simp [hE.ev hv]
    | false => simp only [cond_false] at hv; simp [hE.ev hv]) hJ
/-- What an operator of two gives, where it does not look at memory. -/
def binV (op : BinOp) (x y : Value) : Option Value :=
  match op, x, y with
  | .add, .int .i64 a, .int .i64 b => some (.int .i64 (IntKind.i64.wrap (a + b)))
  | .sub, .int .i64 a, .int .i64 b => some (.int .i64 (IntKind.i64.wrap (a - b)))
  | .mul, .int .i64 a, .int .i64 b => some (.int .i64 (IntKind.i64.wrap (a * b)))
  | .eql, .int .i64 a, .int .i64 b => some (.bool (decide (a = b)))
  | .neq, .int .i64 a, .int .i64 b => some (.bool (!decide (a = b)))
  | .lss, .int .i64 a, .int .i64 b => some (.bool (decide (a < b)))
  | .leq, .int .i64 a, .int .i64 b => some (.bool (decide (a ≤ b)))
  | .gtr, .int .i64 a, .int .i64 b => some (.bool (decide (b < a)))
  | .geq, .int .i64 a, .int .i64 b => some (.bool (decide (b ≤ a)))
  | .eql, .int .u8 a, .int .u8 b => some (.bool (decide (a = b)))
  | .neq, .int .u8 a, .int .u8 b => some (.bool (!decide (a = b)))
  | .lss, .int .u8 a, .int .u8 b => some (.bool (decide (a < b)))
  | .leq, .int .u8 a, .int .u8 b => some (.bool (decide (a ≤ b)))
  | .gtr, .int .u8 a, .int .u8 b => some (.bool (decide (b < a)))
  | .geq, .int .u8 a, .int .u8 b => some (.bool (decide (b ≤ a)))
  | .eql, .int .i32 a, .int .i32 b => some (.bool (decide (a = b)))
  | .neq, .int .i32 a, .int .i32 b => some (.bool (!decide (a = b)))
  | .lss, .int .i32 a, .int .i32 b => some (.bool (decide (a < b)))
  | .leq, .int .i32 a, .int .i32 b => some (.bool (decide (a ≤ b)))
  | .gtr, .int .i32 a, .int .i32 b => some (.bool (decide (b < a)))
  | .geq, .int .i32 a, .int .i32 b => some (.bool (decide (b ≤ a)))
  | .eql, .string a, .string b => some (.bool (decide (a.data.toList = b.data.toList)))
  | .neq, .string a, .string b => some (.bool (!decide (a.data.toList = b.data.toList)))
  | _, _, _ => none
theorem eqGuard_scalar {P : Program} {w : World} {op : BinOp} {t : TypeId} {x y : Operand} {a b v : Value} (h : binV op a b = some v) : (eqGuard op t x y a b).run P w = .ok () w := by
  unfold eqGuard binV at *
  split at h <;> first | (cases h; rfl) | cases h
theorem binOp_run {P : Program} {w : World} {op : BinOp} {t : TypeId} {a b v : Value} (h : binV op a b = some v) : (binOp op t a b).run P w = .ok v w := by
  unfold binV at h
  split at h <;> cases h <;> simp [binOp, Op.intArith, Op.intCmp, Op.stringOp, bne, Bool.beq_eq_decide_eq, ByteArray.toList_eq] <;> (try rfl) <;> (apply Bool.eq_iff_iff.2; simp)
theorem JJ.bin {op : BinOp} {t t' : TypeId} {x y : Operand} {a b v : Value} (rg : Reg c.N ops) (ho : ops[i]? = some ⟨dst, .binOp op t x y t', ty, pos, aft, gd⟩) (hg : wants ops E gd = some true) (hx : evE E x = some a) (hy : evE E y = some b) (hv : binV op a b = some v)
    (hJ : JJ c (.inRegion ops is :: K) (putE dst v E) D I L) : JJ c (.inRegion ops (i :: is) :: K) E D I L :=
  JJ.op0 rg ho hg (fun _ e => by cases e) (fun A w h k hE _ _ => by
    refine ⟨.value v, ?_, .inl rfl⟩
    simp only [execOp, hE.ev hx, hE.ev hy]
    simp [eqGuard_scalar hv, binOp_run hv]) hJ
/-- Likewise, the number said more simply. -/
theorem JJ.binI {op : BinOp} {t t' : TypeId} {x y : Operand} {a b : Value} {u z : Int} {k : IntKind} (rg : Reg c.N ops) (ho : ops[i]? = some ⟨dst, .binOp op t x y t', ty, pos, aft, gd⟩) (hg : wants ops E gd = some true) (hx : evE E x = some a) (hy : evE E y = some b) (hv : binV op a b = some (.int k u)) (hz : u = z)
    (hJ : JJ c (.inRegion ops is :: K) (putE dst (.int k z) E) D I L) : JJ c (.inRegion ops (i :: is) :: K) E D I L := JJ.bin rg ho hg hx hy (hz ▸ hv) hJ
def isBoolT (P : Program) (T : TypeId) : Bool := match P.underlying T with | some .bool => true | _ => false
theorem equal_bool {P : Program} {w : World} {T : TypeId} (h : isBoolT P T = true) (a b : Bool) : (Op.equal T (.bool a) (.bool b)).run P w = .ok (a == b) w := by
  unfold isBoolT at h
  split at h
  · rename_i hu
    have key : ∀ d : Nat, (Op.equalIn (d + 1) T (.bool a) (.bool b)).run P w = .ok (a == b) w := fun d => by
      simp [Op.equalIn, underlying, hu]
    exact key 9999
  · cases h
theorem JJ.eqBool {t t' : TypeId} {x y : Operand} {a b : Bool} (ht : isBoolT c.P t = true) (rg : Reg c.N ops) (ho : ops[i]? = some ⟨dst, .binOp .eql t x y t', ty, pos, aft, gd⟩) (hg : wants ops E gd = some true) (hx : evE E x = some (.bool a)) (hy : evE E y = some (.bool b))
    (hJ : JJ c (.inRegion ops is :: K) (putE dst (.bool (a == b)) E) D I L) : JJ c (.inRegion ops (i :: is) :: K) E D I L :=
  JJ.op0 rg ho hg (fun _ e => by cases e) (fun A w h k hE _ _ => by
    refine ⟨.value (.bool (a == b)), ?_, .inl rfl⟩
    simp [execOp, hE.ev hx, hE.ev hy, eqGuard, binOp, equal_bool ht]) hJ
theorem JJ.neBool {t t' : TypeId} {x y : Operand} {a b : Bool} (ht : isBoolT c.P t = true) (rg : Reg c.N ops) (ho : ops[i]? = some ⟨dst, .binOp .neq t x y t', ty, pos, aft, gd⟩) (hg : wants ops E gd = some true) (hx : evE E x = some (.bool a)) (hy : evE E y = some (.bool b))
    (hJ : JJ c (.inRegion ops is :: K) (putE dst (.bool (!(a == b))) E) D I L) : JJ c (.inRegion ops (i :: is) :: K) E D I L :=
  JJ.op0 rg ho hg (fun _ e => by cases e) (fun A w h k hE _ _ => by
    refine ⟨.value (.bool (!(a == b))), ?_, .inl rfl⟩
    simp [execOp, hE.ev hx, hE.ev hy, eqGuard, binOp, equal_bool ht]) hJ
theorem JJ.shr {t t' : TypeId} {x y : Operand} {a b z : Int} {k k' : IntKind} (rg : Reg c.N ops) (ho : ops[i]? = some ⟨dst, .binOp .shr t x y t', ty, pos, aft, gd⟩) (hg : wants ops E gd = some true) (hx : evE E x = some (.int k a)) (hy : evE E y = some (.int k' b)) (h0 : 0 ≤ b) (hz : a.fdiv (2 ^ (min b.toNat k.bits)) = z)
    (hJ : JJ c (.inRegion ops is :: K) (putE dst (.int k z) E) D I L) : JJ c (.inRegion ops (i :: is) :: K) E D I L :=
  JJ.op0 rg ho hg (fun _ e => by cases e) (fun A w h kk hE _ _ => by
    refine ⟨.value (.int k z), ?_, .inl rfl⟩
    have h1 : ¬ b < 0 := by omega
    simp [execOp, hE.ev hx, hE.ev hy, eqGuard, binOp, Op.shift, h1, hz]) hJ
theorem JJ.not {t : TypeId} {x : Operand} {b : Bool} (rg : Reg c.N ops) (ho : ops[i]? = some ⟨dst, .unOp .not t x, ty, pos, aft, gd⟩) (hg : wants ops E gd = some true) (hx : evE E x = some (.bool b))
    (hJ : JJ c (.inRegion ops is :: K) (putE dst (.bool !b) E) D I L) : JJ c (.inRegion ops (i :: is) :: K) E D I L :=
  JJ.op0 rg ho hg (fun _ e => by cases e) (fun A w h k hE _ _ => ⟨.value _, by simp [execOp, hE.ev hx, Op.unary], .inl rfl⟩) hJ
theorem JJ.extract {x : Operand} {n : Nat} {vs : Array Value} {v : Value} (rg : Reg c.N ops) (ho : ops[i]? = some ⟨dst, .extract x n, ty, pos, aft, gd⟩) (hg : wants ops E gd = some true) (hx : evE E x = some (.tuple vs)) (hv : vs[n]? = some v)
    (hJ : JJ c (.inRegion ops is :: K) (putE dst v E) D I L) : JJ c (.inRegion ops (i :: is) :: K) E D I L :=
  JJ.op0 rg ho hg (fun _ e => by cases e) (fun A w h k hE _ _ => ⟨.value v, by simp [execOp, hE.ev hx, Instr.extract, hv], .inl rfl⟩) hJ
theorem JJ.makeFunc {fn : Fn} {first captured : Array Operand} (rg : Reg c.N ops) (ho : ops[i]? = some ⟨dst, .makeFunc fn first captured, ty, pos, aft, gd⟩) (hg : wants ops E gd = some true)
    (fs cs : Array Value) (h1 : ∀ a, Env c.N a E D → first.map a.eval = fs) (h2 : ∀ a, Env c.N a E D → captured.map a.eval = cs)
    (hJ : JJ c (.inRegion ops is :: K) (putE dst (.func fn fs cs) E) D I L) : JJ c (.inRegion ops (i :: is) :: K) E D I L :=
  JJ.op0 rg ho hg (fun _ e => by cases e) (fun A w h k hE _ _ => ⟨.value _, by simp [execOp, h1 A hE, h2 A hE, Instr.makeFunc], .inl rfl⟩) hJ
theorem JJ.nilCheck {x : Operand} {a : Addr} (rg : Reg c.N ops) (ho : ops[i]? = some ⟨dst, .nilCheck x, ty, pos, aft, gd⟩) (hg : wants ops E gd = some true) (hx : evE E x = some (.pointer (some a)))
    (hJ : JJ c (.inRegion ops is :: K) (putE dst (.pointer (some a)) E) D I L) : JJ c (.inRegion ops (i :: is) :: K) E D I L :=
  JJ.op0 rg ho hg (fun _ e => by cases e) (fun A w h k hE _ _ => ⟨.value (.pointer (some a)), by simp [execOp, hE.ev hx], .inl rfl⟩) hJ
end
end Go.Proofs.Ytlcdafeoionnhaa
