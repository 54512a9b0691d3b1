/- Literals of structs and slices; rows that are shared; lists as they lie in memory. -/
import Derived.Test.YtlcdafeoionnhaaRow
namespace Go.Proofs.Ytlcdafeoionnhaa
open Go
set_option linter.unusedSimpArgs false
set_option linter.unusedVariables false

def fillA (place : Nat → Option (Nat × Nat)) (cells : Array Value) : List (Nat × Value) → Option (Array Value)
  | [] => some cells
  | (i, v) :: rest =>
    match place i with
    | none => none
    | some (off, size) => bif Nat.beq v.cells.size size && Nat.ble (off + size) cells.size then fillA place (stC cells off v.cells.toList) rest else none
theorem foldl_stC : ∀ (vs : List Value) (off k : Nat) (cells : Array Value), (vs.zipIdx k).foldl (fun cs (p : Value × Nat) => cs.setIfInBounds (off + p.2) p.1) cells = stC cells (off + k) vs := by
  intro vs
  induction vs with
  | nil => intro off k cells; rfl
  | cons v vs ih => intro off k cells; simp only [List.zipIdx_cons, List.foldl_cons, stC]; rw [ih off (k + 1)]; rfl
theorem fillA_ok {place : Nat → Option (Nat × Nat)} : ∀ {l : List (Nat × Value)} {cells r : Array Value}, fillA place cells l = some r → Instr.fill place cells l = some r := by
  intro l
  induction l with
  | nil => intro cells r h; simpa [fillA, Instr.fill] using h
  | cons p l ih =>
    obtain ⟨i, v⟩ := p
    intro cells r h
    simp only [fillA] at h
    cases hp : place i with
    | none => rw [hp] at h; cases h
    | some q =>
      obtain ⟨off, size⟩ := q
      rw [hp] at h
      dsimp only at h
      cases hb : (Nat.beq v.cells.size size && Nat.ble (off + size) cells.size) with
      | false => rw [hb] at h; cases h
      | true =>
        rw [hb] at h
        simp only [Bool.and_eq_true] at hb
        have h1 : v.cells.size = size := Nat.eq_of_beq_eq_true hb.1
        have h2 : off + size ≤ cells.size := by simpa using hb.2
        have h3 : (v.cells.zipIdx.foldl (fun cs (p : Value × Nat) => cs.setIfInBounds (off + p.2) p.1) cells) = stC cells off v.cells.toList := by
          rw [← Array.foldl_toList, Array.toList_zipIdx]; exact foldl_stC v.cells.toList off 0 cells
        simp only [Instr.fill, hp]
        rw [if_neg (by simp [h1]; omega)]
        have h4 := ih (by simpa using h)
        rw [← h3] at h4
        exact h4
/-- Where a struct's fields lie, and how many cells each has. -/
def structO (P : Program) (T : TypeId) : Option (List (Nat × Nat)) :=
  match P.underlying T with
  | some (.struct fs) => fs.toList.mapM fun f => (P.info? f.type).map fun i => (f.offset, i.size)
  | _ => none
theorem places_run {P : Program} : ∀ (fs : List Field) (pl : List (Nat × Nat)) (w : World), (fs.mapM fun f => (P.info? f.type).map fun i => (f.offset, i.size)) = some pl → (fs.mapM fun f => (do pure (f.offset, ← sizeOf f.type) : Sem (Nat × Nat))).run P w = .ok pl w := by
  intro fs
  induction fs with
  | nil => intro pl w h; simp at h; subst h; rfl
  | cons f fs ih =>
    intro pl w h
    rw [List.mapM_cons] at h
    cases hi : P.info? f.type with
    | none => rw [hi] at h; cases h
    | some i =>
      rw [hi] at h
      cases hr : (fs.mapM fun f => (P.info? f.type).map fun i => (f.offset, i.size)) with
      | none => rw [hr] at h; cases h
      | some r =>
        rw [hr] at h
        simp at h
        subst h
        rw [List.mapM_cons]
        simp only [Sem.run_bind, sizeOf, typeInfo, run_program, Result.andThen_ok, hi, Sem.run_pure]
        have := ih r w hr
        simp only [sizeOf, typeInfo] at this
        rw [this]
        rfl
def evP (E : List (Nat × Value)) : List (Nat × Operand) → Option (List (Nat × Value))
  | [] => some []
  | (n, o) :: r => match evE E o, evP E r with
    | some v, some vs => some ((n, v) :: vs)
    | _, _ => none
theorem evP_cons {E : List (Nat × Value)} {n : Nat} {o : Operand} {r : List (Nat × Operand)} {v : Value} {vs : List (Nat × Value)} (h : evE E o = some v) (k : evP E r = some vs) : evP E ((n, o) :: r) = some ((n, v) :: vs) := by simp only [evP, h, k]
theorem Env.evP {N : Nat} {a : Act} {E : List (Nat × Value)} {D : List Deferred} (h : Env N a E D) : ∀ {l : List (Nat × Operand)} {vs : List (Nat × Value)}, evP E l = some vs → l.map (fun p => (p.1, a.eval p.2)) = vs
  | [], vs, e => by cases e; rfl
  | (n, o) :: r, vs, e => by
    simp only [Go.Proofs.Ytlcdafeoionnhaa.evP] at e
    split at e
    · rename_i v us hv hus
      cases e
      simp [h.ev hv, h.evP hus]
    · cases e
section
variable {c : Cx} {K : List Item} {E : List (Nat × Value)} {D : List Deferred} {I : Hp} {L : List HP} {ops : Array Oper} {i : Nat} {is : List Nat}
variable {dst : Option Nat} {ty : TypeId} {pos : String} {aft : Array Edge} {gd : Option (Nat × Bool)}
theorem JJ.build {T : TypeId} {z : Value} {pl : List (Nat × Nat)} {parts : Array (Nat × Operand)} {vs : List (Nat × Value)} {cells : Array Value} (hz : zeroOf c.P T = some z) (hp : structO c.P T = some pl) (rg : Reg c.N ops) (ho : ops[i]? = some ⟨dst, .build T parts, ty, pos, aft, gd⟩) (hg : wants ops E gd = some true)
    (hv : evP E parts.toList = some vs) (hf : fillA (fun i => pl[i]?) z.cells vs = some cells) (hJ : JJ c (.inRegion ops is :: K) (putE dst (.agg cells) E) D I L) : JJ c (.inRegion ops (i :: is) :: K) E D I L :=
  JJ.op0 rg ho hg (fun _ e => by cases e) (fun A w h k hE _ _ => by
    refine ⟨.value (.agg cells), ?_, .inl rfl⟩
    unfold structO at hp
    split at hp
    · rename_i fs hu
      have hpl : (fs.mapM fun f => (do pure (f.offset, ← sizeOf f.type) : Sem (Nat × Nat))).run c.P w = .ok pl.toArray w := by
        have := places_run fs.toList pl w hp
        rw [← Array.toArray_toList (xs := fs), List.mapM_toArray, Sem.run_map, this]; rfl
      have hparts : (parts.map fun (p : Nat × Operand) => (p.1, A.eval p.2)).toList = vs := by rw [Array.toList_map]; exact hE.evP hv
      have hfl : Instr.fill (fun i => pl.toArray[i]?) z.cells vs = some cells := by
        have := fillA_ok hf
        simpa using this
      simp only [execOp, Instr.build, Sem.run_bind, zeroOf_run hz, Result.andThen_ok, underlying, run_program, hu, Sem.run_pure]
      rw [hpl]
      simp only [Result.andThen_ok]
      rw [hparts, hfl]
      rfl
    · cases hp) hJ
theorem JJ.buildSlice {T e : TypeId} {sz len : Nat} {z : Value} {parts : Array (Nat × Operand)} {vs : List (Nat × Value)} {cells : Array Value} {cs : List Value} (he : elemO c.P T = some (e, sz)) (hz : zeroOf c.P e = some z) (rg : Reg c.N ops) (ho : ops[i]? = some ⟨dst, .buildSlice T len parts, ty, pos, aft, gd⟩) (hg : wants ops E gd = some true)
    (hlen : Nat.ble (len * sz) 16777216 = true) (h0 : Nat.beq (len * sz) 0 = false) (hv : evP E parts.toList = some vs) (hf : fillA (fun i => some (i * sz, sz)) ((List.range (len * sz)).map (fun j => z.cells[j % z.cells.size]!)).toArray vs = some cells) (hcs : cells = cs.toArray)
    (hJ : ∀ b : Nat, JJ c (.inRegion ops is :: K) (putE dst (.slice (some ⟨b, 0, none⟩) len len) E) D I (blk b (.cells cs.toArray e) :: L)) : JJ c (.inRegion ops (i :: is) :: K) E D I L :=
  JJ.op (X := Nat) (I' := fun _ => I) (L' := fun b => blk b (.cells cs.toArray e) :: L) rg ho hg (fun _ e => by cases e) (fun _ => True) (fun b => .slice (some ⟨b, 0, none⟩) len len)
    (fun a w h k hE hS hR => by
      obtain ⟨hu, inf, hi, hn⟩ := elemO_ok he
      have hle : len * sz ≤ 16777216 := by simpa using hlen
      have hne : ¬ len * sz = 0 := Nat.ne_of_beq_eq_false h0
      have hparts : (parts.map fun (p : Nat × Operand) => (p.1, a.eval p.2)).toList = vs := by rw [Array.toList_map]; exact hE.evP hv
      have hfl := fillA_ok hf
      have hra : ((List.range (len * sz)).map (fun j => z.cells[j % z.cells.size]!)).toArray = (Array.range (len * sz)).map (fun j => z.cells[j % z.cells.size]!) := by rw [← List.map_toArray, List.toArray_range]
      rw [hra] at hfl
      refine ⟨w.heap.size, _, _, h.set w.heap.size (.cells cs.toArray e), trivial, ?_, .inl rfl, hS.new _ (hR.hon.fresh (Nat.le_refl _)), hR.new _, .refl _, ⟨rfl, rfl, rfl⟩⟩
      subst hcs
      have hgt : ¬ len * sz > 2 ^ 24 := by omega
      simp only [execOp, Instr.buildSlice, Sem.run_bind, underlying, run_program, Result.andThen_ok, hu, Sem.run_pure, sizeOf, typeInfo, hi, hn]
      rw [if_neg hgt, if_neg hne]
      simp only [Sem.run_bind, Sem.run_pure, zeroOf_run hz, Result.andThen_ok]
      rw [hparts, hfl]
      rfl) fun b _ => hJ b
end

theorem ldV_all {n : Nat} {vs : List Value} (h : vs.length = n) : ldV true n vs = some (.agg vs.toArray) := by
  subst h
  have : Nat.ble vs.length vs.length = true := by simp
  simp [ldV, this]
theorem stC_gen : ∀ (vs pre post : List Value) (C : List Value), C.length = vs.length → stC (pre ++ C ++ post).toArray pre.length vs = (pre ++ vs ++ post).toArray := by
  intro vs
  induction vs with
  | nil => intro pre post C h; cases C with | nil => rfl | cons _ _ => cases h
  | cons v vs ih =>
    intro pre post C h
    cases C with
    | nil => cases h
    | cons c C =>
      have := ih (pre ++ [v]) post C (by simpa using h)
      simp only [stC]
      rw [show (pre ++ c :: C ++ post).toArray.setIfInBounds pre.length v = (pre ++ [v] ++ C ++ post).toArray from by
        apply Array.ext'; simp]
      rw [show pre.length + 1 = (pre ++ [v]).length from by simp, this]
      simp
theorem stC_all {C vs : List Value} (h : C.length = vs.length) : stC C.toArray 0 vs = vs.toArray := by
  have := stC_gen vs [] [] C h
  simpa using this
/-- A slice literal of one element. -/
theorem fillA_one {sz : Nat} {C : Array Value} {vs : List Value} (h : C.size = sz) (hl : vs.length = sz) : fillA (fun i => some (i * sz, sz)) C [(0, .agg vs.toArray)] = some vs.toArray := by
  have h1 : Nat.beq (Value.agg vs.toArray).cells.size sz = true := by simp [Value.cells, hl]
  have h2 : Nat.ble (0 * sz + sz) C.size = true := by simp [h]
  have h4 : Nat.ble (0 + sz) C.size = true := by simp [h]
  simp only [fillA, h1, h2, Bool.and_self, cond_true, Nat.zero_mul, Bool.true_and, h4]
  have h3 := stC_all (C := C.toList) (vs := vs) (by simp [h, hl])
  simp only [Array.toArray_toList] at h3
  rw [show (Value.agg vs.toArray).cells.toList = vs from by simp [Value.cells], h3]
/-! ### Rows that do not change any more -/
/-- A slice's elements lie in what does not change any more. -/
def SlR (I : Hp) (A : Option Addr) (n cp : Nat) (xs : List Value) : Prop := (n = 0 ∧ xs = []) ∨ ∃ a, A = some a ∧ n ≤ cp ∧ Row I a xs
theorem SlR.mono {I I' : Hp} {A : Option Addr} {n cp : Nat} {xs : List Value} (h : SlR I A n cp xs) (l : I.le I') : SlR I' A n cp xs := by
  rcases h with h | ⟨a, h1, h2, h3⟩
  · exact .inl h
  · exact .inr ⟨a, h1, h2, h3.mono l⟩
theorem JJ.shareOwn {c : Cx} {K : List Item} {E : List (Nat × Value)} {D : List Deferred} {I : Hp} {L : List HP} {e : TypeId} {sz : Nat} {A : Option Addr} {n cp : Nat} {xs : List Value} (h : ∀ I', I.le I' → SlR I' A n cp xs → JJ c K E D I' L) : JJ c K E D I (own e sz A n cp xs :: L) := by
  rintro a w hh k hE ⟨h1, h2, l1, l2, d, ⟨hl, hc⟩, hS⟩ hR
  rcases hc with ⟨rfl, rfl, rfl⟩ | ⟨g, cur, rfl, hb, hn, hs, htk⟩
  · have hx0 : xs = [] := List.eq_nil_of_length_eq_zero (by simpa using hl)
    exact h I (.refl _) (.inl ⟨rfl, hx0⟩) a w hh k hE (hS.mono l2) hR
  · refine JJ.share (b := g) (o := .cells cur e (0, 0)) (fun I' le hg => h I' le ?_) a w hh k hE ⟨h1, h2, l1, l2, d, hb, hS⟩ hR
    refine .inr ⟨_, rfl, hn, rfl, cur, e, (0, 0), hg, fun j v hv => ?_⟩
    rw [← htk, List.getElem?_take] at hv
    split at hv
    · simpa using hv
    · cases hv
/-- The value of a slice whose own cells have become known to all. -/
inductive All2 {α β : Type} (p : α → β → Prop) : List α → List β → Prop
  | nil : All2 p [] []
  | cons {a b l m} : p a b → All2 p l m → All2 p (a :: l) (b :: m)
theorem All2.mono {α β : Type} {p q : α → β → Prop} (k : ∀ a b, p a b → q a b) {l : List α} {m : List β} (h : All2 p l m) : All2 q l m := by
  induction h with
  | nil => exact .nil
  | cons a _ ih => exact .cons (k _ _ a) ih
theorem All2.length {α β : Type} {p : α → β → Prop} {l : List α} {m : List β} (h : All2 p l m) : l.length = m.length := by
  induction h with
  | nil => rfl
  | cons _ _ ih => simp [ih]
theorem All2.append {α β : Type} {p : α → β → Prop} {l l' : List α} {m m' : List β} (h : All2 p l m) (h' : All2 p l' m') : All2 p (l ++ l') (m ++ m') := by
  induction h with
  | nil => exact h'
  | cons a _ ih => exact .cons a ih
theorem All2.get {α β : Type} {p : α → β → Prop} {l : List α} {m : List β} (h : All2 p l m) : ∀ {i : Nat} {b : β}, m[i]? = some b → ∃ a, l[i]? = some a ∧ p a b := by
  induction h with
  | nil => intro i b e; cases e
  | cons a _ ih =>
    intro i b e
    cases i with
    | zero => simp at e; subst e; exact ⟨_, rfl, a⟩
    | succ i => simpa using ih (by simpa using e)
theorem All2.take {α β : Type} {p : α → β → Prop} {l : List α} {m : List β} (h : All2 p l m) (n : Nat) : All2 p (l.take n) (m.take n) := by
  induction h generalizing n with
  | nil => simp; exact .nil
  | cons a _ ih => cases n with
    | zero => exact .nil
    | succ n => exact .cons a (ih n)
theorem All2.drop {α β : Type} {p : α → β → Prop} {l : List α} {m : List β} (h : All2 p l m) (n : Nat) : All2 p (l.drop n) (m.drop n) := by
  induction h generalizing n with
  | nil => simp; exact .nil
  | cons a t ih => cases n with
    | zero => exact .cons a t
    | succ n => exact ih n
theorem flatten_length {α : Type} {sz : Nat} : ∀ (l : List (List α)), (∀ x ∈ l, x.length = sz) → l.flatten.length = l.length * sz
  | [], _ => by simp
  | x :: l, h => by
    have h1 := h x (by simp)
    have h2 := flatten_length l (fun y hy => h y (by simp [hy]))
    simp only [List.flatten_cons, List.length_append, List.length_cons, h1, h2, Nat.add_mul, Nat.one_mul]; omega
theorem flatten_get {α : Type} {sz : Nat} : ∀ (l : List (List α)) (_ : ∀ x ∈ l, x.length = sz) (i : Nat) (x : List α), l[i]? = some x → ∀ j v, x[j]? = some v → l.flatten[i * sz + j]? = some v
  | [], _, i, x, h, _, _, _ => by cases h
  | y :: l, h, i, x, hx, j, v, hj => by
    have hy := h y (by simp)
    cases i with
    | zero =>
      simp at hx; subst hx
      have hlt := (List.getElem?_eq_some_iff.1 hj).1
      simp only [List.flatten_cons, Nat.zero_mul, Nat.zero_add]
      rw [List.getElem?_append_left hlt]; exact hj
    | succ i =>
      have := flatten_get l (fun z hz => h z (by simp [hz])) i x (by simpa using hx) j v hj
      simp only [List.flatten_cons]
      rw [List.getElem?_append_right (by rw [hy, Nat.add_mul]; omega), hy]
      rw [show (i + 1) * sz + j - sz = i * sz + j from by rw [Nat.add_mul]; omega]; exact this
/-- A slice reads as a list: Re: how an element's cells read. -/
def RSl {α : Type} (Re : Hp → List Value → α → Prop) (sz : Nat) (I : Hp) (A : Option Addr) (n cp : Nat) (ds : List α) : Prop :=
  n = ds.length ∧ ∃ css : List (List Value), All2 (fun cs d => cs.length = sz ∧ Re I cs d) css ds ∧ SlR I A n cp css.flatten
theorem RSl.mono {α : Type} {Re : Hp → List Value → α → Prop} {sz : Nat} {I I' : Hp} {A : Option Addr} {n cp : Nat} {ds : List α} (h : RSl Re sz I A n cp ds) (l : I.le I') (hm : ∀ cs d, d ∈ ds → Re I cs d → Re I' cs d) : RSl Re sz I' A n cp ds := by
  obtain ⟨hn, css, ha, hs⟩ := h
  refine ⟨hn, css, ?_, hs.mono l⟩
  clear hn hs
  induction ha with
  | nil => exact .nil
  | cons a _ ih => exact .cons ⟨a.1, hm _ _ (by simp) a.2⟩ (ih fun cs d hd => hm cs d (by simp [hd]))
theorem RSl.get {α : Type} {Re : Hp → List Value → α → Prop} {sz : Nat} {I : Hp} {A : Option Addr} {n cp : Nat} {ds : List α} (h : RSl Re sz I A n cp ds) {i : Nat} {d : α} (hi : ds[i]? = some d) :
    ∃ a cs, A = some a ∧ n ≤ cp ∧ cs.length = sz ∧ Re I cs d ∧ Row I (a.add (i * sz)) cs := by
  obtain ⟨hn, css, ha, hs⟩ := h
  obtain ⟨cs, hcs, hl, hre⟩ := ha.get hi
  have hlt := (List.getElem?_eq_some_iff.1 hi).1
  rcases hs with ⟨h0, _⟩ | ⟨a, hA, hle, hrow⟩
  · omega
  · refine ⟨a, cs, hA, hle, hl, hre, ?_⟩
    have hall : ∀ x ∈ css, x.length = sz := by
      intro x hx
      clear hrow hcs hi hlt hn hre hl
      induction ha with
      | nil => cases hx
      | cons a _ ih => rcases List.mem_cons.1 hx with rfl | hx
                       · exact a.1
                       · exact ih hx
    have h1 := hrow.drop (i * sz)
    obtain ⟨s, C, T, fz, hb, hk⟩ := h1
    refine ⟨s, C, T, fz, hb, fun j v hj => hk j v ?_⟩
    rw [List.getElem?_drop]
    exact flatten_get css hall i cs hcs j v hj
theorem All2.up {α : Type} (Re : Hp → List Value → α → Prop) {sz : Nat} {I I' : Hp} {l : List (List Value)} {m : List α} (hm : ∀ cs d, Re I cs d → Re I' cs d) (h : All2 (fun cs d => cs.length = sz ∧ Re I cs d) l m) : All2 (fun cs d => cs.length = sz ∧ Re I' cs d) l m := h.mono fun _ _ x => ⟨x.1, hm _ _ x.2⟩
theorem RSl.nil {α : Type} {Re : Hp → List Value → α → Prop} {sz : Nat} {I : Hp} {A : Option Addr} {cp : Nat} : RSl Re sz I A 0 cp [] := ⟨rfl, [], .nil, .inl ⟨rfl, rfl⟩⟩
/-- Out of what an own row has become. -/
theorem RSl.of {α : Type} {Re : Hp → List Value → α → Prop} {sz : Nat} {I : Hp} {A : Option Addr} {n cp : Nat} {css : List (List Value)} {ds : List α} (h : SlR I A n cp css.flatten) (hn : n = ds.length) (ha : All2 (fun cs d => cs.length = sz ∧ Re I cs d) css ds) : RSl Re sz I A n cp ds := ⟨hn, css, ha, h⟩
end Go.Proofs.Ytlcdafeoionnhaa
