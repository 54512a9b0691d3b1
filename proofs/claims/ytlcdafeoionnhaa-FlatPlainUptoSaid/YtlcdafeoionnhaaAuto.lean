/- What the walker that finds its own way leans on: rules, lists, and how scripts read, at whatever depth. -/
import Derived.Test.YtlcdafeoionnhaaEq
namespace Go.Proofs.Ytlcdafeoionnhaa
open Go
set_option linter.unusedSimpArgs false
set_option linter.unusedVariables false
theorem xb0 {α : Type} (a b : α) : cond true a b = a := rfl
theorem xb1 {α : Type} (a b : α) : cond false a b = b := rfl
theorem xb2 (b : Bool) : (true || b) = true := rfl
theorem xb3 (b : Bool) : (false || b) = b := rfl
theorem xb4 (b : Bool) : (b || true) = true := by cases b <;> rfl
theorem xb5 (b : Bool) : (b || false) = b := by cases b <;> rfl
theorem xb6 (b : Bool) : (true && b) = b := rfl
theorem xb7 (b : Bool) : (false && b) = false := rfl
theorem xb8 (b : Bool) : (b && true) = b := by cases b <;> rfl
theorem xb9 (b : Bool) : (b && false) = false := by cases b <;> rfl
theorem xb10 : (!true) = false := rfl
theorem xb11 : (!false) = true := rfl
theorem wants_of {ops : Array Oper} {E : List (Nat × Value)} {j d : Nat} {w x : Bool} (hd : (ops[j]?).bind (·.dst) = some d) (h : get E d = some (.bool x)) : wants ops E (some (j, w)) = some (x == w) := by
  simp only [wants, hd, h]
theorem drop_cons {α : Type} {l : List α} {i : Nat} {d : α} (h : l[i]? = some d) : l.drop i = d :: l.drop (i + 1) := by
  obtain ⟨hlt, rfl⟩ := List.getElem?_eq_some_iff.1 h
  exact List.drop_eq_getElem_cons hlt
theorem getD_some {α : Type} [Inhabited α] {l : List α} {i : Nat} (h : i < l.length) : l[i]? = some (l.getD i default) := by
  rw [List.getD_eq_getElem?_getD, List.getElem?_eq_getElem h]; rfl
instance : Inhabited Ex := ⟨.mk 0 0 ⟨#[]⟩ []⟩
instance : Inhabited St := ⟨.mk 0 ⟨#[]⟩ 0 [] [] [] false⟩
instance : Inhabited Pc := ⟨⟨⟨#[]⟩, []⟩⟩
instance : Inhabited Oc := ⟨⟨⟨#[]⟩, default⟩⟩
theorem drop_range {n i : Nat} (h : i < n) : (List.range n).drop i = i :: (List.range n).drop (i + 1) := by
  refine drop_cons ?_
  rw [List.getElem?_range h]
theorem drop_range_end {n : Nat} : (List.range n).drop n = [] := List.drop_of_length_le (by simp)
section
variable {c : Cx} {K : List Item} {E : List (Nat × Value)} {D : List Deferred} {I : Hp} {L : List HP} {ops : Array Oper} {i : Nat} {is : List Nat}
variable {dst : Option Nat} {ty : TypeId} {pos : String} {aft : Array Edge} {gd : Option (Nat × Bool)}
theorem JJ.indexAddrA {A : Option Addr} {a : Addr} (hA : A = some a) {T e : TypeId} {n : Nat} {x y : Operand} {k : IntKind} {ix : Int} {a' : Addr} {len cap : Nat} (he : elemO c.P T = some (e, n)) (rg : Reg c.N ops) (ho : ops[i]? = some ⟨dst, .indexAddr T x y, ty, pos, aft, gd⟩) (hg : wants ops E gd = some true)
    (hx : evE E x = some (.slice A len cap)) (hy : evE E y = some (.int k ix)) (h0 : 0 ≤ ix) (h1 : ix < len) (ha : a.add (ix.toNat * n) = a')
    (hJ : JJ c (.inRegion ops is :: K) (putE dst (.pointer (some a')) E) D I L) : JJ c (.inRegion ops (i :: is) :: K) E D I L := by
  subst hA
  exact JJ.indexAddr he rg ho hg hx hy h0 h1 ha hJ
theorem JJ.minInt {x y : Operand} {tys : Array TypeId} {k k' : IntKind} {a b : Int} (rg : Reg c.N ops) (ho : ops[i]? = some ⟨dst, .call ⟨.builtin .min, #[x, y], tys⟩, ty, pos, aft, gd⟩) (hg : wants ops E gd = some true)
    (hx : evE E x = some (.int k a)) (hy : evE E y = some (.int k' b)) (hJ : JJ c (.inRegion ops is :: K) (putE dst (.int k (min a b)) E) D I L) : JJ c (.inRegion ops (i :: is) :: K) E D I L :=
  JJ.op0 rg ho hg (fun _ e => by cases e) (fun A w h kk hE _ _ => by
    refine ⟨.value (.int k (min a b)), ?_, .inl rfl⟩
    have e : min a b = if b < a then b else a := by split <;> omega
    simp [execOp, resolve, hE.ev hx, hE.ev hy, invoke, builtin, Builtin.min_, Builtin.min2, e]) hJ
theorem JJ.maxInt {x y : Operand} {tys : Array TypeId} {k k' : IntKind} {a b : Int} (rg : Reg c.N ops) (ho : ops[i]? = some ⟨dst, .call ⟨.builtin .max, #[x, y], tys⟩, ty, pos, aft, gd⟩) (hg : wants ops E gd = some true)
    (hx : evE E x = some (.int k a)) (hy : evE E y = some (.int k' b)) (hJ : JJ c (.inRegion ops is :: K) (putE dst (.int k (max a b)) E) D I L) : JJ c (.inRegion ops (i :: is) :: K) E D I L :=
  JJ.op0 rg ho hg (fun _ e => by cases e) (fun A w h kk hE _ _ => by
    refine ⟨.value (.int k (max a b)), ?_, .inl rfl⟩
    have e : max a b = if a < b then b else a := by split <;> omega
    simp [execOp, resolve, hE.ev hx, hE.ev hy, invoke, builtin, Builtin.max_, Builtin.max2, e]) hJ
end
section
variable {c : Cx} {K : List Item} {E : List (Nat × Value)} {D : List Deferred} {I : Hp} {L : List HP} {ops : Array Oper} {i : Nat} {is : List Nat}
variable {dst : Option Nat} {ty : TypeId} {pos : String} {aft : Array Edge} {gd : Option (Nat × Bool)}
theorem JJ.lookupI {T e : TypeId} (hT : smapT c.P T = some e) (hz : zeroOf c.P e = some (.int .i64 0)) {x y : Operand} {b : Nat} {k : ByteArray} {m : IMap} (j : Nat) (rg : Reg c.N ops) (ho : ops[i]? = some ⟨dst, .lookup T x y false, ty, pos, aft, gd⟩) (hg : wants ops E gd = some true)
    (hx : evE E x = some (.map (some b))) (hy : evE E y = some (.string k)) (hj : L[j]? = some (mapR b m.toS)) (hJ : JJ c (.inRegion ops is :: K) (putE dst (.int .i64 (m.get k)) E) D I L) : JJ c (.inRegion ops (i :: is) :: K) E D I L :=
  JJ.lookup hT hz j rg ho hg hx hy hj (IMap.toS_find k m) hJ
theorem JJ.mapUpdateI {T e : TypeId} (hT : smapT c.P T = some e) {x y u : Operand} {b : Nat} {k : ByteArray} {m : IMap} {v : Int} (j : Nat) (rg : Reg c.N ops) (ho : ops[i]? = some ⟨none, .mapUpdate T x y u, ty, pos, aft, gd⟩) (hg : wants ops E gd = some true)
    (hx : evE E x = some (.map (some b))) (hy : evE E y = some (.string k)) (hu : evE E u = some (.int .i64 v)) (hj : L[j]? = some (mapR b m.toS)) (hJ : JJ c (.inRegion ops is :: K) E D I (L.set j (mapR b (m.set k v).toS))) : JJ c (.inRegion ops (i :: is) :: K) E D I L :=
  JJ.mapUpdate hT j rg ho hg hx hy hu hj (by rw [IMap.toS_set]) hJ
theorem JJ.makeMapI {T : TypeId} (rg : Reg c.N ops) (ho : ops[i]? = some ⟨dst, .makeMap T none, ty, pos, aft, gd⟩) (hg : wants ops E gd = some true)
    (hJ : ∀ b : Nat, JJ c (.inRegion ops is :: K) (putE dst (.map (some b)) E) D I (mapR b (IMap.toS []) :: L)) : JJ c (.inRegion ops (i :: is) :: K) E D I L := JJ.makeMap rg ho hg hJ
end
section
variable {c : Cx} {K : List Item} {E : List (Nat × Value)} {D : List Deferred} {I : Hp} {L : List HP} {ops : Array Oper} {i : Nat} {is : List Nat}
variable {dst : Option Nat} {ty : TypeId} {pos : String} {aft : Array Edge} {gd : Option (Nat × Bool)}
/-- 'append' to a slice of one's own whose elements read as data. -/
theorem JJ.appendQ {α : Type} {T tx e : TypeId} {sz bytes : Nat} {z : Value} (hT : elemO c.P T = some (e, sz)) (hinf : infoO c.P e = some (z, bytes)) (hzs : z.cells.size = sz) {x y : Operand} {A : Option Addr} {cp m : Nat} {css newsL : List (List Value)} {ds ms : List α} {src : Value} (j : Nat) (rg : Reg c.N ops)
    (ho : ops[i]? = some ⟨dst, .call ⟨.builtin .append, #[x, y], #[T, tx]⟩, ty, pos, aft, gd⟩) (hg : wants ops E gd = some true) (hx : evE E x = some (.slice A ds.length cp)) (hy : evE E y = some src) (hj : L[j]? = some (own e sz A ds.length cp css.flatten)) (hsrc : SrcOk c.P sz tx src m newsL.flatten I L) (hm : m = ms.length)
    (hbd : (ds.length + m) * (bytes + 1) ≤ 140737488355328)
    (hJ : ∀ A' c', JJ c (.inRegion ops is :: K) (putE dst (.slice A' (ds ++ ms).length c') E) D I (L.set j (own e sz A' (ds ++ ms).length c' (css ++ newsL).flatten))) : JJ c (.inRegion ops (i :: is) :: K) E D I L := by
  refine JJ.append hT hinf hzs j rg ho hg hx hy hj hsrc hbd fun A' c' => ?_
  have := hJ A' c'
  rw [List.length_append, List.flatten_append, ← hm] at this
  exact this
theorem JJ.appendE {α : Type} {enc : α → List Value} {T tx e : TypeId} {sz bytes : Nat} {z : Value} (hT : elemO c.P T = some (e, sz)) (hinf : infoO c.P e = some (z, bytes)) (hzs : z.cells.size = sz) {x y : Operand} {A : Option Addr} {cp m : Nat} {ds ms : List α} {src : Value} (j : Nat) (rg : Reg c.N ops)
    (ho : ops[i]? = some ⟨dst, .call ⟨.builtin .append, #[x, y], #[T, tx]⟩, ty, pos, aft, gd⟩) (hg : wants ops E gd = some true) (hx : evE E x = some (.slice A ds.length cp)) (hy : evE E y = some src) (hj : L[j]? = some (own e sz A ds.length cp (ds.flatMap enc))) (hsrc : SrcOk c.P sz tx src m (ms.flatMap enc) I L) (hm : m = ms.length)
    (hbd : (ds.length + m) * (bytes + 1) ≤ 140737488355328)
    (hJ : ∀ A' c', JJ c (.inRegion ops is :: K) (putE dst (.slice A' (ds ++ ms).length c') E) D I (L.set j (own e sz A' (ds ++ ms).length c' ((ds ++ ms).flatMap enc)))) : JJ c (.inRegion ops (i :: is) :: K) E D I L := by
  refine JJ.append hT hinf hzs j rg ho hg hx hy hj hsrc hbd fun A' c' => ?_
  have := hJ A' c'
  rw [List.length_append, List.flatMap_append, ← hm] at this
  exact this
end
theorem SrcOk.ofSl {P : Program} {sz : Nat} {tx : TypeId} {m cp : Nat} {news : List Value} {I : Hp} {L : List HP} {A : Option Addr} (ht : sliceOfT P tx = true) (hs : SlR I A m cp news) (hl : news.length = m * sz) (h1 : ∀ u ∈ news, u.oneCell' = true) : SrcOk P sz tx (.slice A m cp) m news I L := by
  rcases hs with ⟨rfl, rfl⟩ | ⟨a, rfl, _, hr⟩
  · intro w h k hS hR
    obtain ⟨e, he⟩ := sliceOfT_ok ht
    cases A with
    | none => exact Src.ofNil w he cp
    | some a => exact Src.ofSlice w he a 0 cp [] (by simp) (fun j u hu => by simp at hu) (fun u hu => by cases hu)
  · exact SrcOk.ofRow ht hr hl h1
/-- Elements that read as data. -/
def Rq {α : Type} (Re : Hp → List Value → α → Prop) (sz : Nat) (I : Hp) (css : List (List Value)) (ds : List α) : Prop := All2 (fun cs d => cs.length = sz ∧ Re I cs d) css ds
theorem Rq.nil {α : Type} {Re : Hp → List Value → α → Prop} {sz : Nat} {I : Hp} : Rq Re sz I [] [] := All2.nil
theorem Rq.app {α : Type} {Re : Hp → List Value → α → Prop} {sz : Nat} {I : Hp} {css css' : List (List Value)} {ds ds' : List α} (h : Rq Re sz I css ds) (h' : Rq Re sz I css' ds') : Rq Re sz I (css ++ css') (ds ++ ds') := All2.append h h'
theorem Rq.of {α : Type} {Re : Hp → List Value → α → Prop} {sz : Nat} {I : Hp} {A : Option Addr} {n cp : Nat} {ds : List α} (h : RSl Re sz I A n cp ds) : ∃ css, Rq Re sz I css ds ∧ SlR I A n cp css.flatten ∧ css.flatten.length = n * sz := by
  obtain ⟨hn, css, ha, hs⟩ := h
  refine ⟨css, ha, hs, ?_⟩
  have hall : ∀ x ∈ css, x.length = sz := by
    intro x hx
    clear hs hn
    induction ha with
    | nil => cases hx
    | cons a _ ih => rcases List.mem_cons.1 hx with rfl | hx
                     · exact a.1
                     · exact ih hx
  rw [flatten_length css hall, ha.length, hn]
theorem Rq.one {α : Type} {Re : Hp → List Value → α → Prop} {sz : Nat} {I : Hp} {css : List (List Value)} {ds : List α} (h : Rq Re sz I css ds) (h1 : ∀ I cs d, Re I cs d → ∀ u ∈ cs, u.oneCell' = true) : ∀ u ∈ css.flatten, u.oneCell' = true := by
  induction h with
  | nil => intro u hu; cases hu
  | cons a _ ih =>
    intro u hu
    simp only [List.flatten_cons, List.mem_append] at hu
    rcases hu with hu | hu
    · exact h1 _ _ _ a.2 u hu
    · exact ih u hu
/-- Resources, bound together. -/
def pack (L : List HP) : HP := fun h => Sat L h
theorem JJ.unpack {c : Cx} {K : List Item} {E : List (Nat × Value)} {D : List Deferred} {I : Hp} {L1 L : List HP} (h : JJ c K E D I (L1 ++ L)) : JJ c K E D I (pack L1 :: L) :=
  fun a w hh k hE ⟨_, _, l1, l2, d, s1, s2⟩ hR => h a w hh k hE (Sat.join l1 l2 d s1 s2) hR
theorem Sat.packn {L1 L : List HP} {h : Hp} (s : Sat (L1 ++ L) h) : Sat (pack L1 :: L) h :=
  let ⟨h1, h2, a, b, c, d, e⟩ := s.split; ⟨h1, h2, a, b, c, d, e⟩
/-! ### Scripts at whatever depth -/
theorem All2.ex {α β : Type} {p : Nat → α → β → Prop} (hm : ∀ k k' a b, k ≤ k' → p k a b → p k' a b) {l : List α} {m : List β} (h : All2 (fun a b => ∃ k, p k a b) l m) : ∃ k, All2 (p k) l m := by
  induction h with
  | nil => exact ⟨0, .nil⟩
  | cons a _ ih =>
    obtain ⟨k, hk⟩ := a
    obtain ⟨k', hk'⟩ := ih
    exact ⟨max k k', .cons (hm _ _ _ _ (Nat.le_max_left _ _) hk) (hk'.mono fun a b r => hm _ _ _ _ (Nat.le_max_right _ _) r)⟩
theorem RSl.ex {α : Type} {R : Nat → Hp → List Value → α → Prop} (hm : ∀ k k' I cs d, k ≤ k' → R k I cs d → R k' I cs d) {sz : Nat} {I : Hp} {A : Option Addr} {n cp : Nat} {ds : List α} (h : RSl (fun I cs d => ∃ k, R k I cs d) sz I A n cp ds) : ∃ k, RSl (R k) sz I A n cp ds := by
  obtain ⟨hn, css, ha, hs⟩ := h
  have ha' : All2 (fun cs d => ∃ k, cs.length = sz ∧ R k I cs d) css ds := by
    refine ha.mono ?_
    intro cs d h
    obtain ⟨h1, k, h2⟩ := h
    exact ⟨k, h1, h2⟩
  obtain ⟨k, hk⟩ := All2.ex (α := List Value) (β := α) (p := fun k (cs : List Value) (d : α) => cs.length = sz ∧ R k I cs d) (fun k k' cs d l h => ⟨h.1, hm _ _ _ _ _ l h.2⟩) ha'
  exact ⟨k, hn, css, hk, hs⟩
def RX (I : Hp) (cs : List Value) (x : Ex) : Prop := ∃ k, RE k I cs x
def RT (I : Hp) (cs : List Value) (x : St) : Prop := ∃ k, RS k I cs x
def RXs := RSl RX 4
def RTs := RSl RT 7
theorem RX.mono {I I' : Hp} {cs : List Value} {x : Ex} (h : RX I cs x) (l : I.le I') : RX I' cs x := let ⟨k, r⟩ := h; ⟨k, r.mono l⟩
theorem RT.mono {I I' : Hp} {cs : List Value} {x : St} (h : RT I cs x) (l : I.le I') : RT I' cs x := let ⟨k, r⟩ := h; ⟨k, r.mono l⟩
theorem RXs.mono {I I' : Hp} {A : Option Addr} {n cp : Nat} {ds : List Ex} (h : RXs I A n cp ds) (l : I.le I') : RXs I' A n cp ds := RSl.mono h l fun _ _ _ r => r.mono l
theorem RTs.mono {I I' : Hp} {A : Option Addr} {n cp : Nat} {ds : List St} (h : RTs I A n cp ds) (l : I.le I') : RTs I' A n cp ds := RSl.mono h l fun _ _ _ r => r.mono l
theorem RXs.k {I : Hp} {A : Option Addr} {n cp : Nat} {ds : List Ex} (h : RXs I A n cp ds) : ∃ k, REs k I A n cp ds := RSl.ex (R := RE) (fun _ _ _ _ _ l r => r.more l) h
theorem RTs.k {I : Hp} {A : Option Addr} {n cp : Nat} {ds : List St} (h : RTs I A n cp ds) : ∃ k, RSs k I A n cp ds := RSl.ex (R := RS) (fun _ _ _ _ _ l r => r.more l) h
theorem REs.x {k : Nat} {I : Hp} {A : Option Addr} {n cp : Nat} {ds : List Ex} (h : REs k I A n cp ds) : RXs I A n cp ds := RSl.imp h fun _ _ _ r => ⟨k, r⟩
theorem RSs.x {k : Nat} {I : Hp} {A : Option Addr} {n cp : Nat} {ds : List St} (h : RSs k I A n cp ds) : RTs I A n cp ds := RSl.imp h fun _ _ _ r => ⟨k, r⟩
theorem RX.len {I : Hp} {cs : List Value} {x : Ex} (h : RX I cs x) : cs.length = 4 := let ⟨_, r⟩ := h; r.len
theorem RT.len {I : Hp} {cs : List Value} {x : St} (h : RT I cs x) : cs.length = 7 := let ⟨_, r⟩ := h; r.len
theorem RX.one {I : Hp} {cs : List Value} {x : Ex} (h : RX I cs x) : ∀ u ∈ cs, u.oneCell' = true := let ⟨_, r⟩ := h; r.one
theorem RT.one {I : Hp} {cs : List Value} {x : St} (h : RT I cs x) : ∀ u ∈ cs, u.oneCell' = true := let ⟨_, r⟩ := h; r.one
theorem RX.open {I : Hp} {cs : List Value} {x : Ex} (h : RX I cs x) : ∃ A cp, cs = [.int .i64 x.op, .int .i64 x.n, .string x.s, .slice A x.x.length cp] ∧ RXs I A x.x.length cp x.x := by
  obtain ⟨k, r⟩ := h
  obtain ⟨A, m, cp, rfl, hx⟩ := r.open
  obtain rfl := hx.1
  exact ⟨A, cp, rfl, hx.x⟩
theorem RT.open {I : Hp} {cs : List Value} {x : St} (h : RT I cs x) : ∃ A cp A1 cp1 A2 cp2, cs = [.int .i64 x.op, .string x.s, .int .i64 x.n, .slice A x.e.length cp, .slice A1 x.body.length cp1, .slice A2 x.els.length cp2, .bool x.commit] ∧ RXs I A x.e.length cp x.e ∧ RTs I A1 x.body.length cp1 x.body ∧ RTs I A2 x.els.length cp2 x.els := by
  obtain ⟨k, r⟩ := h
  obtain ⟨A, m, cp, A1, m1, cp1, A2, m2, cp2, rfl, hx, hx1, hx2⟩ := r.open
  obtain rfl := hx.1
  obtain rfl := hx1.1
  obtain rfl := hx2.1
  exact ⟨A, cp, A1, cp1, A2, cp2, rfl, hx.x, hx1.x, hx2.x⟩
theorem RX.mk {I : Hp} {op n : Int} {s : ByteArray} {A : Option Addr} {m cp : Nat} {l : List Ex} (h : RXs I A m cp l) : RX I [.int .i64 op, .int .i64 n, .string s, .slice A m cp] (.mk op n s l) :=
  let ⟨k, r⟩ := h.k; ⟨k + 1, A, m, cp, rfl, r⟩
theorem RT.mk {I : Hp} {op n : Int} {s : ByteArray} {c : Bool} {A A1 A2 : Option Addr} {m cp m1 cp1 m2 cp2 : Nat} {e : List Ex} {b f : List St} (h : RXs I A m cp e) (h1 : RTs I A1 m1 cp1 b) (h2 : RTs I A2 m2 cp2 f) :
    RT I [.int .i64 op, .string s, .int .i64 n, .slice A m cp, .slice A1 m1 cp1, .slice A2 m2 cp2, .bool c] (.mk op s n e b f c) := by
  obtain ⟨k, r⟩ := h.k
  obtain ⟨k1, r1⟩ := h1.k
  obtain ⟨k2, r2⟩ := h2.k
  exact ⟨k + k1 + k2 + 1, A, m, cp, A1, m1, cp1, A2, m2, cp2, rfl, r.more (by omega), r1.more (by omega), r2.more (by omega)⟩
theorem RX.cl {I : Hp} {x : Ex} {A : Option Addr} {cp : Nat} (h : RXs I A x.x.length cp x.x) : RX I [.int .i64 x.op, .int .i64 x.n, .string x.s, .slice A x.x.length cp] x := by
  cases x; exact RX.mk h
def RXq := Rq RX 4
def RTq := Rq RT 7
theorem RXq.mono {I I' : Hp} {css : List (List Value)} {ds : List Ex} (h : RXq I css ds) (l : I.le I') : RXq I' css ds := All2.up RX (fun _ _ r => r.mono l) h
theorem RTq.mono {I I' : Hp} {css : List (List Value)} {ds : List St} (h : RTq I css ds) (l : I.le I') : RTq I' css ds := All2.up RT (fun _ _ r => r.mono l) h
theorem RXs.nil {I : Hp} {A : Option Addr} {cp : Nat} : RXs I A 0 cp [] := RSl.nil
theorem RTs.nil {I : Hp} {A : Option Addr} {cp : Nat} : RTs I A 0 cp [] := RSl.nil
def RQ (I : Hp) (cs : List Value) (x : Pc) : Prop := ∃ A cp, cs = [.string x.name, .slice A x.body.length cp] ∧ RTs I A x.body.length cp x.body
def RQs := RSl RQ 2
def RO (I : Hp) (cs : List Value) (x : Oc) : Prop := ∃ A cp, cs = [.string x.name, .int .i64 x.e.op, .int .i64 x.e.n, .string x.e.s, .slice A x.e.x.length cp] ∧ RXs I A x.e.x.length cp x.e.x
def ROs := RSl RO 5
theorem RQ.mono {I I' : Hp} {cs : List Value} {x : Pc} (h : RQ I cs x) (l : I.le I') : RQ I' cs x := let ⟨A, cp, e, r⟩ := h; ⟨A, cp, e, r.mono l⟩
theorem RO.mono {I I' : Hp} {cs : List Value} {x : Oc} (h : RO I cs x) (l : I.le I') : RO I' cs x := let ⟨A, cp, e, r⟩ := h; ⟨A, cp, e, r.mono l⟩
theorem RQs.mono {I I' : Hp} {A : Option Addr} {n cp : Nat} {ds : List Pc} (h : RQs I A n cp ds) (l : I.le I') : RQs I' A n cp ds := RSl.mono h l fun _ _ _ r => r.mono l
theorem ROs.mono {I I' : Hp} {A : Option Addr} {n cp : Nat} {ds : List Oc} (h : ROs I A n cp ds) (l : I.le I') : ROs I' A n cp ds := RSl.mono h l fun _ _ _ r => r.mono l
theorem RQ.open {I : Hp} {cs : List Value} {x : Pc} (h : RQ I cs x) : ∃ A cp, cs = [.string x.name, .slice A x.body.length cp] ∧ RTs I A x.body.length cp x.body := h
theorem RO.open {I : Hp} {cs : List Value} {x : Oc} (h : RO I cs x) : ∃ A cp, cs = [.string x.name, .int .i64 x.e.op, .int .i64 x.e.n, .string x.e.s, .slice A x.e.x.length cp] ∧ RXs I A x.e.x.length cp x.e.x := h
theorem RQ.len {I : Hp} {cs : List Value} {x : Pc} (h : RQ I cs x) : cs.length = 2 := let ⟨_, _, e, _⟩ := h; by rw [e]; rfl
theorem RO.len {I : Hp} {cs : List Value} {x : Oc} (h : RO I cs x) : cs.length = 5 := let ⟨_, _, e, _⟩ := h; by rw [e]; rfl
theorem RQs.nil {I : Hp} {A : Option Addr} {cp : Nat} : RQs I A 0 cp [] := RSl.nil
theorem ROs.nil {I : Hp} {A : Option Addr} {cp : Nat} : ROs I A 0 cp [] := RSl.nil
theorem RPcs.k {I : Hp} {A : Option Addr} {n cp : Nat} {ds : List Pc} (h : RQs I A n cp ds) : ∃ k, RPcs k I A n cp ds := by
  refine RSl.ex (R := RPc) (fun _ _ _ _ _ l r => ?_) (RSl.imp h fun I cs d r => ?_)
  · obtain ⟨A, m, cp, e, h⟩ := r; exact ⟨A, m, cp, e, h.more l⟩
  · obtain ⟨A, cp, e, h⟩ := r; obtain ⟨k, r⟩ := h.k; exact ⟨k, A, _, cp, e, r⟩
theorem ROcs.k {I : Hp} {A : Option Addr} {n cp : Nat} {ds : List Oc} (h : ROs I A n cp ds) : ∃ k, ROcs k I A n cp ds := by
  refine RSl.ex (R := ROc) (fun _ _ _ _ _ l r => ?_) (RSl.imp h fun I cs d r => ?_)
  · obtain ⟨A, m, cp, e, h⟩ := r; exact ⟨A, m, cp, e, h.more l⟩
  · obtain ⟨A, cp, e, h⟩ := r; obtain ⟨k, r⟩ := h.k; exact ⟨k + 1, A, _, cp, e, A, _, cp, rfl, r⟩
theorem RPcs.x {k : Nat} {I : Hp} {A : Option Addr} {n cp : Nat} {ds : List Pc} (h : RPcs k I A n cp ds) : RQs I A n cp ds := RSl.imp h fun I cs d r => by
  obtain ⟨A, m, cp, e, h⟩ := r
  obtain rfl := h.1
  exact ⟨A, cp, e, h.x⟩
theorem ROcs.x {k : Nat} {I : Hp} {A : Option Addr} {n cp : Nat} {ds : List Oc} (h : ROcs k I A n cp ds) : ROs I A n cp ds := RSl.imp h fun I cs d r => by
  obtain ⟨A, m, cp, e, h⟩ := r
  obtain ⟨A', m', cp', e', h'⟩ := h.open
  cases e'
  obtain rfl := h'.1
  exact ⟨A, cp, e, h'.x⟩
def RP (I : Hp) (cs : List Value) (x : Pg) : Prop := ∃ A cp A1 cp1 A2 cp2 A3 cp3, cs = [.slice A x.procs.length cp, .slice A1 x.main.length cp1, .slice A2 x.recover.length cp2, .slice A3 x.oracles.length cp3] ∧
  RQs I A x.procs.length cp x.procs ∧ RTs I A1 x.main.length cp1 x.main ∧ RTs I A2 x.recover.length cp2 x.recover ∧ ROs I A3 x.oracles.length cp3 x.oracles
theorem RP.open {I : Hp} {cs : List Value} {x : Pg} (h : RP I cs x) : ∃ A cp A1 cp1 A2 cp2 A3 cp3, cs = [.slice A x.procs.length cp, .slice A1 x.main.length cp1, .slice A2 x.recover.length cp2, .slice A3 x.oracles.length cp3] ∧
  RQs I A x.procs.length cp x.procs ∧ RTs I A1 x.main.length cp1 x.main ∧ RTs I A2 x.recover.length cp2 x.recover ∧ ROs I A3 x.oracles.length cp3 x.oracles := h
theorem RP.mono {I I' : Hp} {cs : List Value} {x : Pg} (h : RP I cs x) (l : I.le I') : RP I' cs x := by
  obtain ⟨A, cp, A1, cp1, A2, cp2, A3, cp3, e, h, h1, h2, h3⟩ := h
  exact ⟨A, cp, A1, cp1, A2, cp2, A3, cp3, e, h.mono l, h1.mono l, h2.mono l, h3.mono l⟩
theorem RP.len {I : Hp} {cs : List Value} {x : Pg} (h : RP I cs x) : cs.length = 4 := let ⟨_, _, _, _, _, _, _, _, e, _⟩ := h; by rw [e]; rfl
theorem RP.one {I : Hp} {cs : List Value} {x : Pg} (h : RP I cs x) : ∀ u ∈ cs, u.oneCell' = true := by
  obtain ⟨_, _, _, _, _, _, _, _, e, _⟩ := h
  rw [e]; intro u hu; simp at hu; rcases hu with rfl | rfl | rfl | rfl <;> rfl
theorem RP.mk {I : Hp} {A A1 A2 A3 : Option Addr} {m cp m1 cp1 m2 cp2 m3 cp3 : Nat} {p : List Pc} {a b : List St} {o : List Oc} (h : RQs I A m cp p) (h1 : RTs I A1 m1 cp1 a) (h2 : RTs I A2 m2 cp2 b) (h3 : ROs I A3 m3 cp3 o) :
    RP I [.slice A m cp, .slice A1 m1 cp1, .slice A2 m2 cp2, .slice A3 m3 cp3] (.mk p a b o) := by
  obtain rfl := h.1
  obtain rfl := h1.1
  obtain rfl := h2.1
  obtain rfl := h3.1
  exact ⟨A, cp, A1, cp1, A2, cp2, A3, cp3, rfl, h, h1, h2, h3⟩
theorem RP.k {I : Hp} {cs : List Value} {x : Pg} (h : RP I cs x) : ∃ k, RPg k I cs x := by
  obtain ⟨A, cp, A1, cp1, A2, cp2, A3, cp3, e, h, h1, h2, h3⟩ := h
  obtain ⟨k, r⟩ := RPcs.k h
  obtain ⟨k1, r1⟩ := h1.k
  obtain ⟨k2, r2⟩ := h2.k
  obtain ⟨k3, r3⟩ := ROcs.k h3
  refine ⟨k + k1 + k2 + k3, A, _, cp, A1, _, cp1, A2, _, cp2, A3, _, cp3, e, ?_, r1.more (by omega), r2.more (by omega), ?_⟩
  · exact RSl.imp r fun _ _ _ ⟨A, m, cp, e, h⟩ => ⟨A, m, cp, e, h.more (by omega)⟩
  · exact RSl.imp r3 fun _ _ _ ⟨A, m, cp, e, h⟩ => ⟨A, m, cp, e, h.more (by omega)⟩
theorem RPg.x {k : Nat} {I : Hp} {cs : List Value} {x : Pg} (h : RPg k I cs x) : RP I cs x := by
  obtain ⟨A, m, cp, A1, m1, cp1, A2, m2, cp2, A3, m3, cp3, e, h, h1, h2, h3⟩ := h
  obtain rfl := h.1
  obtain rfl := h1.1
  obtain rfl := h2.1
  obtain rfl := h3.1
  exact ⟨A, cp, A1, cp1, A2, cp2, A3, cp3, e, RPcs.x h, h1.x, h2.x, ROcs.x h3⟩
end Go.Proofs.Ytlcdafeoionnhaa
