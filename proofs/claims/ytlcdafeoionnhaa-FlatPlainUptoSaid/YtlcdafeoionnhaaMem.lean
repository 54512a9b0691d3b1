/- The judgement's rules for memory, calls, loops, and a function's contract. -/
import Derived.Test.YtlcdafeoionnhaaOps
import Derived.KernelRfl
namespace Go.Proofs.Ytlcdafeoionnhaa
open Go
set_option linter.unusedSimpArgs false
set_option linter.unusedVariables false

/-! ### Facts on types -/
def isAggD : TypeDesc → Bool
  | .struct _ | .array _ _ => true
  | _ => false
/-- Is a type a struct or an array, and how many cells has it? -/
def tyI (P : Program) (T : TypeId) : Option (Bool × Nat) :=
  match P.underlying T, P.info? T with
  | some d, some i => some (isAggD d, i.size)
  | _, _ => none
theorem tyI_agg {P : Program} {T : TypeId} {g : Bool} {n : Nat} (h : tyI P T = some (g, n)) (w : World) : (isAgg T).run P w = .ok g w := by
  unfold tyI at h
  split at h
  · rename_i d i hd hi
    cases h
    simp only [isAgg, underlying, Sem.run_bind, run_program, Result.andThen_ok, hd]
    cases d <;> rfl
  · cases h
theorem tyI_size {P : Program} {T : TypeId} {g : Bool} {n : Nat} (h : tyI P T = some (g, n)) (w : World) : (sizeOf T).run P w = .ok n w := by
  unfold tyI at h
  split at h
  · rename_i d i hd hi
    cases h
    simp only [sizeOf, typeInfo, Sem.run_bind, run_program, Result.andThen_ok, hi, Sem.run_pure]
  · cases h
def zeroOf (P : Program) (T : TypeId) : Option Value := (P.info? T).bind (·.zero)
theorem zeroOf_run {P : Program} {T : TypeId} {z : Value} (h : zeroOf P T = some z) (w : World) : (zeroValue T).run P w = .ok z w := by
  unfold zeroOf at h
  cases hi : P.info? T with
  | none => rw [hi] at h; cases h
  | some i =>
    rw [hi] at h
    simp only [Option.bind_some] at h
    simp only [zeroValue, typeInfo, Sem.run_bind, run_program, Result.andThen_ok, hi, Sem.run_pure, h]

/-! ### Cells -/
/-- From a on lie these values. -/
def Row (h : Hp) (a : Addr) (vs : List Value) : Prop := a.spot = none ∧ ∃ c T fz, h a.block = some (.cells c T fz) ∧ ∀ j v, vs[j]? = some v → c[a.off + j]? = some v
theorem Row.mono {h h' : Hp} {a : Addr} {vs : List Value} (r : Row h a vs) (l : Hp.le h h') : Row h' a vs := let ⟨s, c, T, fz, e, k⟩ := r; ⟨s, c, T, fz, l _ _ e, k⟩
theorem Row.cell {h : Hp} {a : Addr} {vs : List Value} {w : World} (r : Row h a vs) (o : Hp.on h w) {j : Nat} {v : Value} (e : vs[j]? = some v) : w.cell? (a.add j) = some v := by
  obtain ⟨s, c, T, fz, hb, k⟩ := r
  have hw := o _ _ hb
  have hc := k j v e
  unfold Addr.add
  by_cases hj : j = 0
  · subst hj; rw [if_pos rfl]; simp only [World.cell?, hw, s]; simpa using hc
  · rw [if_neg hj]; simp only [World.cell?, hw]; simpa using hc
theorem Row.drop {h : Hp} {a : Addr} {vs : List Value} (r : Row h a vs) (n : Nat) : Row h (a.add n) (vs.drop n) := by
  obtain ⟨s, c, T, fz, hb, k⟩ := r
  unfold Addr.add
  by_cases hn : n = 0
  · subst hn; rw [if_pos rfl]; exact ⟨s, c, T, fz, hb, by simpa using k⟩
  · rw [if_neg hn]
    exact ⟨rfl, c, T, fz, hb, fun j v e => by
      rw [List.getElem?_drop] at e
      have := k (n + j) v e
      rw [← Nat.add_assoc] at this; exact this⟩
theorem Row.of {h : Hp} {b : Nat} {c : Array Value} {T : TypeId} {fz : Nat × Nat} (e : h b = some (.cells c T fz)) (off : Nat) : Row h ⟨b, off, none⟩ (c.toList.drop off) :=
  ⟨rfl, c, T, fz, e, fun j v hv => by rw [List.getElem?_drop] at hv; simpa using hv⟩
theorem loadCellsFrom_run {P : Program} {w : World} {a : Addr} : ∀ (n i : Nat) (acc : Array Value) (vs : List Value), vs.length = n → (∀ j v, vs[j]? = some v → w.cell? (a.add (i + j)) = some v) →
    (loadCellsFrom a i n acc).run P w = .ok (acc ++ vs.toArray) w := by
  intro n
  induction n with
  | zero => intro i acc vs hl _; cases vs with | nil => simp [loadCellsFrom] | cons _ _ => cases hl
  | succ n ih =>
    intro i acc vs hl hc
    cases vs with
    | nil => cases hl
    | cons v vs =>
      have h0 := hc 0 v rfl
      simp only [Nat.add_zero] at h0
      simp only [loadCellsFrom, Sem.run_bind, run_load, h0, Result.andThen_ok]
      rw [ih (i + 1) (acc.push v) vs (by simpa using hl) (fun j u e => by have := hc (j + 1) u (by simpa using e); rw [show i + 1 + j = i + (j + 1) from by omega]; exact this)]
      simp
/-- What a load gives, of a row that lies there. -/
def ldV (g : Bool) (n : Nat) (vs : List Value) : Option Value :=
  bif g then (bif Nat.ble n vs.length then some (.agg (vs.take n).toArray) else none) else vs.head?
theorem loadVar_run {P : Program} {w : World} {T : TypeId} {g : Bool} {n : Nat} {a : Addr} {vs : List Value} {v : Value} {h : Hp} (ht : tyI P T = some (g, n)) (r : Row h a vs) (o : Hp.on h w) (hv : ldV g n vs = some v) : (loadVar T a).run P w = .ok v w := by
  simp only [loadVar, Sem.run_bind, tyI_agg ht, Result.andThen_ok]
  unfold ldV at hv
  cases g with
  | true =>
    simp only [cond_true] at hv
    cases hb : Nat.ble n vs.length with
    | false => rw [hb] at hv; cases hv
    | true =>
      rw [hb] at hv
      simp only [cond_true, Option.some.injEq] at hv
      subst hv
      have hle : n ≤ vs.length := by simpa using hb
      simp only [if_true, Sem.run_bind, tyI_size ht, Result.andThen_ok, loadCells]
      rw [loadCellsFrom_run n 0 #[] (vs.take n) (by simp [hle]) (fun j u e => by
        rw [Nat.zero_add]; refine r.cell o ?_
        rw [List.getElem?_take] at e
        split at e
        · exact e
        · cases e)]
      simp
  | false =>
    simp only [cond_false] at hv
    cases vs with
    | nil => cases hv
    | cons u us =>
      simp only [List.head?_cons, Option.some.injEq] at hv
      subst hv
      have := r.cell o (j := 0) (v := u) rfl
      simp only [Addr.add, if_pos] at this
      simp only [Bool.false_eq_true, if_false, run_load, this]

/-! ### New blocks, stores -/
theorem Rel.new {I h k : Hp} {w : World} (hR : Rel I h k w) (o : Obj) : Rel I (h.set w.heap.size o) k { w with heap := w.heap.push o } := by
  have f1 := hR.Ion.fresh (Nat.le_refl _)
  have f3 := hR.kon.fresh (Nat.le_refl _)
  have up : ∀ {x : Hp}, x.on w → x.on { w with heap := w.heap.push o } := fun {x} hx n ob e => by
    have := hx.lt e
    show (w.heap.push o)[n]? = _
    rw [Array.getElem?_push, if_neg (by omega)]; exact hx n ob e
  refine ⟨up hR.Ion, ?_, up hR.kon, ?_, hR.Ik, ?_⟩
  · intro n ob e
    by_cases hn : n = w.heap.size
    · subst hn; rw [Hp.set_same] at e; cases e; simp
    · rw [Hp.set_other _ _ hn] at e; exact up hR.hon n ob e
  · intro n
    by_cases hn : n = w.heap.size
    · subst hn; exact .inl f1
    · rw [Hp.set_other _ _ hn]; exact hR.Ih n
  · intro n
    by_cases hn : n = w.heap.size
    · subst hn; exact .inr f3
    · rw [Hp.set_other _ _ hn]; exact hR.hk n
theorem Sat.new {L : List HP} {h : Hp} (s : Sat L h) {b : Nat} (o : Obj) (hb : h b = none) : Sat (blk b o :: L) (h.set b o) := by
  refine ⟨fun n => if n = b then some o else none, h, fun n x e => ?_, fun n x e => ?_, fun n => ?_, ?_, s⟩
  · dsimp only at e
    by_cases hn : n = b
    · subst hn; rw [if_pos rfl] at e; rw [Hp.set_same]; exact e
    · rw [if_neg hn] at e; cases e
  · by_cases hn : n = b
    · subst hn; rw [hb] at e; cases e
    · rw [Hp.set_other _ _ hn]; exact e
  · by_cases hn : n = b
    · subst hn; exact .inr hb
    · left; dsimp only; rw [if_neg hn]
  · show (if b = b then some o else none) = some o
    rw [if_pos rfl]
/-- One's own block gets another object. -/
theorem Rel.write {I h k : Hp} {w w' : World} (hR : Rel I h k w) {b : Nat} {o o' : Obj} (hb : h b = some o) (hs : w'.heap.size = w.heap.size) (hsame : ∀ n, n ≠ b → w'.heap[n]? = w.heap[n]?) (hnew : w'.heap[b]? = some o') : Rel I (h.set b o') k w' := by
  have f1 : I b = none := by
    rcases hR.Ih b with e | e
    · exact e
    · rw [hb] at e; cases e
  have f3 : k b = none := by
    rcases hR.hk b with e | e
    · rw [hb] at e; cases e
    · exact e
  have up : ∀ {x : Hp}, x.on w → x b = none → x.on w' := fun {x} hx hxb n ob e => by
    by_cases hn : n = b
    · subst hn; rw [hxb] at e; cases e
    · rw [hsame n hn]; exact hx n ob e
  refine ⟨up hR.Ion f1, ?_, up hR.kon f3, ?_, hR.Ik, ?_⟩
  · intro n ob e
    by_cases hn : n = b
    · subst hn; rw [Hp.set_same] at e; cases e; exact hnew
    · rw [Hp.set_other _ _ hn] at e; rw [hsame n hn]; exact hR.hon n ob e
  · intro n
    by_cases hn : n = b
    · subst hn; exact .inl f1
    · rw [Hp.set_other _ _ hn]; exact hR.Ih n
  · intro n
    by_cases hn : n = b
    · subst hn; exact .inr f3
    · rw [Hp.set_other _ _ hn]; exact hR.hk n
theorem Sat.write {L : List HP} {h : Hp} {b : Nat} {o : Obj} (s : Sat (blk b o :: L) h) (o' : Obj) : h b = some o ∧ Sat (blk b o' :: L) (h.set b o') := by
  obtain ⟨h1, h2, l1, l2, d, hb, s2⟩ := s
  refine ⟨l1 _ _ hb, h1.set b o', h2, ?_, ?_, ?_, Hp.set_same _ _ _, s2⟩
  · intro n x e
    by_cases hn : n = b
    · subst hn; rw [Hp.set_same] at e ⊢; exact e
    · rw [Hp.set_other _ _ hn] at e ⊢; exact l1 n x e
  · intro n x e
    by_cases hn : n = b
    · subst hn
      rcases d n with e' | e'
      · rw [show h1 n = some o from hb] at e'; cases e'
      · rw [e] at e'; cases e'
    · rw [Hp.set_other _ _ hn]; exact l2 n x e
  · intro n
    by_cases hn : n = b
    · subst hn
      rcases d n with e' | e'
      · rw [show h1 n = some o from hb] at e'; cases e'
      · exact .inr e'
    · rw [Hp.set_other _ _ hn]; exact d n
/-- The cells behind a store of several. -/
def stC (c : Array Value) (off : Nat) : List Value → Array Value
  | [] => c
  | v :: vs => stC (c.setIfInBounds off v) (off + 1) vs
theorem stC_size (c : Array Value) (off : Nat) (vs : List Value) : (stC c off vs).size = c.size := by
  induction vs generalizing c off with
  | nil => rfl
  | cons v vs ih => simp [stC, ih]
theorem storeCells_run {P : Program} {T : TypeId} {b : Nat} : ∀ (vs : List Value) (w : World) (c : Array Value) (off i : Nat), w.heap[b]? = some (.cells c T (0, 0)) → off + i + vs.length ≤ c.size → (∀ v ∈ vs, v.oneCell' = true) →
    ∃ w', (storeCells ⟨b, off, none⟩ vs i).run P w = .ok () w' ∧ Os w w' ∧ w'.heap.size = w.heap.size ∧ (∀ n, n ≠ b → w'.heap[n]? = w.heap[n]?) ∧ w'.heap[b]? = some (.cells (stC c (off + i) vs) T (0, 0)) := by
  intro vs
  induction vs with
  | nil => intro w c off i hb _ _; exact ⟨w, rfl, .refl _, rfl, fun _ _ => rfl, hb⟩
  | cons v vs ih =>
    intro w c off i hb hl ho
    have hlt : off + i < c.size := by simp only [List.length_cons] at hl; omega
    have hc : w.cell? ⟨b, off + i, none⟩ = some c[off + i] := by simp [World.cell?, hb, hlt]
    have ha : (⟨b, off, none⟩ : Addr).add i = ⟨b, off + i, none⟩ := by
      unfold Addr.add
      by_cases hi : i = 0
      · subst hi; simp
      · rw [if_neg hi]
    have hf : w.frozen? ⟨b, off + i, none⟩ = false := by simp [World.frozen?, hb]
    have hw : (w.setCell ⟨b, off + i, none⟩ v).heap[b]? = some (.cells (c.setIfInBounds (off + i) v) T (0, 0)) := by simp [World.setCell, Array.getElem?_modify, hb]
    obtain ⟨w', hr, ho', hs', hk', hb'⟩ := ih (w.setCell ⟨b, off + i, none⟩ v) (c.setIfInBounds (off + i) v) off (i + 1) hw (by simp only [List.length_cons] at hl; simp; omega) (fun u hu => ho u (by simp [hu]))
    refine ⟨w', ?_, ⟨ho'.os, ho'.tape, ho'.output⟩, by rw [hs']; simp [World.setCell], fun n hn => by rw [hk' n hn]; simp [World.setCell, Array.getElem?_modify, Ne.symm hn], ?_⟩
    · simp only [storeCells, Sem.run_bind, ha]
      rw [run_store P w _ v _ (ho v (by simp))]
      simp only [hc, hf, Bool.false_eq_true, if_false, Result.andThen_ok]
      exact hr
    · rw [hb']; simp only [stC]; rw [Nat.add_assoc]

/-! ### Rules -/
section
variable {c : Cx} {K : List Item} {E : List (Nat × Value)} {D : List Deferred} {I : Hp} {L : List HP} {ops : Array Oper} {i : Nat} {is : List Nat}
variable {dst : Option Nat} {ty : TypeId} {pos : String} {aft : Array Edge} {gd : Option (Nat × Bool)}
theorem JJ.box {T : TypeId} {x : Operand} {v : Value} (rg : Reg c.N ops) (ho : ops[i]? = some ⟨dst, .box T x, ty, pos, aft, gd⟩) (hg : wants ops E gd = some true) (hx : evE E x = some v) {cs : List Value} (hcs : v.cells = cs.toArray)
    (hJ : ∀ b : Nat, JJ c (.inRegion ops is :: K) (putE dst (.pointer (some ⟨b, 0, none⟩)) E) D I (blk b (.cells cs.toArray T) :: L)) : JJ c (.inRegion ops (i :: is) :: K) E D I L :=
  JJ.op (X := Nat) (I' := fun _ => I) (L' := fun b => blk b (.cells cs.toArray T) :: L) rg ho hg (fun _ e => by cases e) (fun _ => True) (fun b => .pointer (some ⟨b, 0, none⟩))
    (fun a w h k hE hS hR => ⟨w.heap.size, _, _, h.set w.heap.size (.cells cs.toArray T), trivial, by simp [execOp, hE.ev hx, Instr.box, newVar, newRow, hcs], .inl rfl,
      hS.new _ (hR.hon.fresh (Nat.le_refl _)), hR.new _, .refl _, ⟨rfl, rfl, rfl⟩⟩) fun b _ => hJ b
theorem JJ.alloc {T : TypeId} {z : Value} (hz : zeroOf c.P T = some z) {cs : List Value} (hcs : z.cells = cs.toArray) (rg : Reg c.N ops) (ho : ops[i]? = some ⟨dst, .alloc T, ty, pos, aft, gd⟩) (hg : wants ops E gd = some true)
    (hJ : ∀ b : Nat, JJ c (.inRegion ops is :: K) (putE dst (.pointer (some ⟨b, 0, none⟩)) E) D I (blk b (.cells cs.toArray T) :: L)) : JJ c (.inRegion ops (i :: is) :: K) E D I L :=
  JJ.op (X := Nat) (I' := fun _ => I) (L' := fun b => blk b (.cells cs.toArray T) :: L) rg ho hg (fun _ e => by cases e) (fun _ => True) (fun b => .pointer (some ⟨b, 0, none⟩))
    (fun a w h k hE hS hR => ⟨w.heap.size, _, _, h.set w.heap.size (.cells cs.toArray T), trivial, by simp [execOp, Instr.alloc, zeroOf_run hz, newVar, newRow, hcs], .inl rfl,
      hS.new _ (hR.hon.fresh (Nat.le_refl _)), hR.new _, .refl _, ⟨rfl, rfl, rfl⟩⟩) fun b _ => hJ b
/-- A load of what does not change any more. -/
theorem JJ.loadI {T : TypeId} {g : Bool} {n : Nat} (ht : tyI c.P T = some (g, n)) {x : Operand} {a : Addr} {vs : List Value} {v : Value} (rg : Reg c.N ops) (ho : ops[i]? = some ⟨dst, .load T x, ty, pos, aft, gd⟩) (hg : wants ops E gd = some true) (hx : evE E x = some (.pointer (some a)))
    (hr : Row I a vs) (hv : ldV g n vs = some v) (hJ : JJ c (.inRegion ops is :: K) (putE dst v E) D I L) : JJ c (.inRegion ops (i :: is) :: K) E D I L :=
  JJ.op0 rg ho hg (fun _ e => by cases e) (fun A w h k hE hS hR => ⟨.value v, by simp [execOp, hE.ev hx, Instr.loadAt, Instr.sureAddr, loadVar_run ht hr hR.Ion hv], .inl rfl⟩) hJ
/-- A load out of a block of one's own. -/
theorem JJ.loadL {T : TypeId} {g : Bool} {n : Nat} (ht : tyI c.P T = some (g, n)) {x : Operand} {b off : Nat} {C : Array Value} {U : TypeId} {fz : Nat × Nat} {v : Value} (j : Nat) (rg : Reg c.N ops) (ho : ops[i]? = some ⟨dst, .load T x, ty, pos, aft, gd⟩) (hg : wants ops E gd = some true) (hx : evE E x = some (.pointer (some ⟨b, off, none⟩)))
    (hj : L[j]? = some (blk b (.cells C U fz))) (hv : ldV g n (C.toList.drop off) = some v) (hJ : JJ c (.inRegion ops is :: K) (putE dst v E) D I L) : JJ c (.inRegion ops (i :: is) :: K) E D I L :=
  JJ.op0 rg ho hg (fun _ e => by cases e) (fun A w h k hE hS hR => by
    obtain ⟨h1, h2, l1, _, _, hb, _⟩ := hS.pull j hj
    exact ⟨.value v, by simp [execOp, hE.ev hx, Instr.loadAt, Instr.sureAddr, loadVar_run ht (Row.of hb off) (hR.hon.mono l1) hv], .inl rfl⟩) hJ
/-- A store into a block of one's own. -/
theorem JJ.store {T : TypeId} {g : Bool} {n : Nat} (ht : tyI c.P T = some (g, n)) {x y : Operand} {b off : Nat} {cs : List Value} {U : TypeId} {v : Value} (j : Nat) {vs cs' : List Value} {L' : List HP} (rg : Reg c.N ops) (ho : ops[i]? = some ⟨none, .store T x y, ty, pos, aft, gd⟩) (hg : wants ops E gd = some true)
    (hx : evE E x = some (.pointer (some ⟨b, off, none⟩))) (hy : evE E y = some v) (hj : L[j]? = some (blk b (.cells cs.toArray U))) (hvs : v.cells = vs.toArray) (hn : Nat.beq vs.length n = true) (hone : vs.all (·.oneCell') = true) (hlen : Nat.ble (off + vs.length) cs.length = true) (hcs : stC cs.toArray off vs = cs'.toArray)
    (hL' : L.set j (blk b (.cells cs'.toArray U)) = L') (hJ : JJ c (.inRegion ops is :: K) E D I L') : JJ c (.inRegion ops (i :: is) :: K) E D I L := by
  refine JJ.op (X := Unit) (I' := fun _ => I) (L' := fun _ => L') rg ho hg (fun _ e => by cases e) (fun _ => True) (fun _ => undef) (fun a w h k hE hS hR => ?_) fun _ _ => hJ
  have hjl : j < L.length := (List.getElem?_eq_some_iff.1 hj).1
  obtain ⟨hb, hS'⟩ := (hS.pull j hj).write (.cells cs'.toArray U)
  have hn' : vs.length = n := Nat.eq_of_beq_eq_true hn
  obtain ⟨w', hr, ho', hs', hk', hb'⟩ := storeCells_run (P := c.P) vs w cs.toArray off 0 (hR.hon _ _ hb) (by simpa using hlen) (fun u hu => List.all_eq_true.1 hone u hu)
  rw [Nat.add_zero, hcs] at hb'
  refine ⟨(), .skip, w', _, trivial, ?_, .inr ⟨rfl, rfl⟩, hL' ▸ Sat.put j hjl hS', hR.write hb hs' hk' hb', .refl _, ho'⟩
  simp [execOp, hE.ev hx, hE.ev hy, Instr.storeAt, Instr.sureAddr, storeVar, tyI_size ht, hvs, hn', hr]

/-! ### Addresses -/
/-- The offset of a field, in cells. -/
def fieldO (P : Program) (T : TypeId) (f : Nat) : Option Nat :=
  match P.underlying T with
  | some (.struct fs) => match fs[f]? with
    | some x => match P.info? x.type with
      | some i => if i.size = 0 then none else some x.offset
      | none => none
    | none => none
  | _ => none
theorem JJ.fieldAddr {T : TypeId} {x : Operand} {f n : Nat} {a a' : Addr} (hf : fieldO c.P T f = some n) (rg : Reg c.N ops) (ho : ops[i]? = some ⟨dst, .fieldAddr T x f, ty, pos, aft, gd⟩) (hg : wants ops E gd = some true) (hx : evE E x = some (.pointer (some a))) (ha : a.add n = a')
    (hJ : JJ c (.inRegion ops is :: K) (putE dst (.pointer (some a')) E) D I L) : JJ c (.inRegion ops (i :: is) :: K) E D I L :=
  JJ.op0 rg ho hg (fun _ e => by cases e) (fun A w h k hE _ _ => by
    refine ⟨.value (.pointer (some a')), ?_, .inl rfl⟩
    unfold fieldO at hf
    split at hf
    · rename_i fs hu
      split at hf
      · rename_i y hy
        split at hf
        · rename_i inf hi
          split at hf
          · cases hf
          · rename_i hz
            cases hf
            simp [execOp, hE.ev hx, Instr.fieldAt, underlying, hu, hy, Instr.sureAddr, fieldPlace, sizeOf, typeInfo, hi, hz, ha]
        · cases hf
      · cases hf
    · cases hf) hJ
/-- The element type of a slice type, and its size in cells. -/
def elemO (P : Program) (T : TypeId) : Option (TypeId × Nat) :=
  match P.underlying T with
  | some (.slice e) => (P.info? e).map fun i => (e, i.size)
  | _ => none
theorem elemO_ok {P : Program} {T e : TypeId} {n : Nat} (h : elemO P T = some (e, n)) : P.underlying T = some (.slice e) ∧ ∃ i, P.info? e = some i ∧ i.size = n := by
  unfold elemO at h
  split at h
  · rename_i e' hu
    cases hi : P.info? e' with
    | none => rw [hi] at h; cases h
    | some i =>
      rw [hi] at h
      simp only [Option.map_some, Option.some.injEq, Prod.mk.injEq] at h
      obtain ⟨rfl, rfl⟩ := h
      exact ⟨hu, i, hi, rfl⟩
  · cases h
theorem JJ.indexAddr {T e : TypeId} {n : Nat} {x y : Operand} {k : IntKind} {ix : Int} {a a' : Addr} {len cap : Nat} (he : elemO c.P T = some (e, n)) (rg : Reg c.N ops) (ho : ops[i]? = some ⟨dst, .indexAddr T x y, ty, pos, aft, gd⟩) (hg : wants ops E gd = some true)
    (hx : evE E x = some (.slice (some a) len cap)) (hy : evE E y = some (.int k ix)) (h0 : 0 ≤ ix) (h1 : ix < len) (ha : a.add (ix.toNat * n) = a')
    (hJ : JJ c (.inRegion ops is :: K) (putE dst (.pointer (some a')) E) D I L) : JJ c (.inRegion ops (i :: is) :: K) E D I L :=
  JJ.op0 rg ho hg (fun _ e => by cases e) (fun A w h k hE _ _ => by
    obtain ⟨hu, inf, hi, hn⟩ := elemO_ok he
    refine ⟨.value (.pointer (some a')), ?_, .inl rfl⟩
    simp [execOp, hE.ev hx, hE.ev hy, Instr.indexAt, asIntOf, underlying, hu, h0, h1, sizeOf, typeInfo, hi, hn, ha]) hJ
def isSliceT (P : Program) (T : TypeId) : Bool := match P.underlying T with | some (.slice _) => true | _ => false
theorem JJ.lenSlice {T : TypeId} {x : Operand} {A : Option Addr} {n cap : Nat} (hT : isSliceT c.P T = true) (rg : Reg c.N ops) (ho : ops[i]? = some ⟨dst, .call ⟨.builtin .len, #[x], #[T]⟩, ty, pos, aft, gd⟩) (hg : wants ops E gd = some true)
    (hx : evE E x = some (.slice A n cap)) (hJ : JJ c (.inRegion ops is :: K) (putE dst (.int .i64 n) E) D I L) : JJ c (.inRegion ops (i :: is) :: K) E D I L :=
  JJ.op0 rg ho hg (fun _ e => by cases e) (fun B w h k hE _ _ => by
    refine ⟨.value (.int .i64 n), ?_, .inl rfl⟩
    unfold isSliceT at hT
    split at hT
    · rename_i e hu
      simp [execOp, resolve, hE.ev hx, invoke, builtin, Builtin.len_, underlying, hu, goInt]
    · cases hT) hJ
def isStringT (P : Program) (T : TypeId) : Bool := match P.underlying T with | some .string => true | _ => false
theorem JJ.lenString {T : TypeId} {x : Operand} {s : ByteArray} (hT : isStringT c.P T = true) (rg : Reg c.N ops) (ho : ops[i]? = some ⟨dst, .call ⟨.builtin .len, #[x], #[T]⟩, ty, pos, aft, gd⟩) (hg : wants ops E gd = some true)
    (hx : evE E x = some (.string s)) (hJ : JJ c (.inRegion ops is :: K) (putE dst (.int .i64 s.size) E) D I L) : JJ c (.inRegion ops (i :: is) :: K) E D I L :=
  JJ.op0 rg ho hg (fun _ e => by cases e) (fun B w h k hE _ _ => by
    refine ⟨.value (.int .i64 s.size), ?_, .inl rfl⟩
    unfold isStringT at hT
    split at hT
    · rename_i hu
      simp [execOp, resolve, hE.ev hx, invoke, builtin, Builtin.len_, underlying, hu, goInt]
    · cases hT) hJ
end
end Go.Proofs.Ytlcdafeoionnhaa
