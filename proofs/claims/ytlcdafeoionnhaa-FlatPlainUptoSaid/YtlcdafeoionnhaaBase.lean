/- A logic for walks: heaplets, the rest of an activation ('Run'), and a judgement ('JJ') over what is known of temporaries and memory. -/
import Derived.CallsIn
import Derived.RangeFuncRecord
import Derived.DefersIn
import Derived.RangeFuncIn
namespace Go.Proofs.Ytlcdafeoionnhaa
open Go

/-! ### Heaplets -/
abbrev Hp := Nat → Option Obj
def Hp.le (a b : Hp) : Prop := ∀ n o, a n = some o → b n = some o
def Hp.dj (a b : Hp) : Prop := ∀ n, a n = none ∨ b n = none
def Hp.on (a : Hp) (w : World) : Prop := ∀ n o, a n = some o → w.heap[n]? = some o
theorem Hp.le.refl (a : Hp) : Hp.le a a := fun _ _ h => h
theorem Hp.le.trans {a b c : Hp} (h : Hp.le a b) (k : Hp.le b c) : Hp.le a c := fun n o x => k n o (h n o x)
theorem Hp.dj.symm {a b : Hp} (h : Hp.dj a b) : Hp.dj b a := fun n => (h n).symm
theorem Hp.dj.mono {a b a' b' : Hp} (h : Hp.dj a b) (ha : Hp.le a' a) (hb : Hp.le b' b) : Hp.dj a' b' := fun n => by
  rcases h n with h | h
  · left
    cases e : a' n with
    | none => rfl
    | some o => rw [ha n o e] at h; cases h
  · right
    cases e : b' n with
    | none => rfl
    | some o => rw [hb n o e] at h; cases h
theorem Hp.on.mono {a b : Hp} {w : World} (h : Hp.on b w) (l : Hp.le a b) : Hp.on a w := fun n o x => h n o (l n o x)
theorem Hp.on.lt {a : Hp} {w : World} (h : Hp.on a w) {n : Nat} {o : Obj} (x : a n = some o) : n < w.heap.size := (Array.getElem?_eq_some_iff.1 (h n o x)).1
theorem Hp.on.fresh {a : Hp} {w : World} (h : Hp.on a w) {n : Nat} (hn : w.heap.size ≤ n) : a n = none := by
  cases e : a n with
  | none => rfl
  | some o => have := h.lt e; omega
/-- One block set. -/
def Hp.set (a : Hp) (n : Nat) (o : Obj) : Hp := fun k => if k = n then some o else a k
theorem Hp.set_same (a : Hp) (n : Nat) (o : Obj) : a.set n o n = some o := by simp [Hp.set]
theorem Hp.set_other (a : Hp) {n k : Nat} (o : Obj) (h : k ≠ n) : a.set n o k = a k := by simp [Hp.set, h]
/-- Two heaplets together. -/
def Hp.add (a b : Hp) : Hp := fun n => (a n).or (b n)
theorem Hp.le_add (a b : Hp) : Hp.le a (a.add b) := fun n o h => by simp [Hp.add, h]
theorem Hp.le_add' {a b : Hp} (d : Hp.dj a b) : Hp.le b (a.add b) := fun n o h => by
  rcases d n with e | e
  · simp [Hp.add, e, h]
  · rw [h] at e; cases e
theorem Hp.add_on {a b : Hp} {w : World} (ha : Hp.on a w) (hb : Hp.on b w) : Hp.on (a.add b) w := fun n o h => by
  simp only [Hp.add] at h
  cases e : a n with
  | none => rw [e] at h; exact hb n o (by simpa using h)
  | some x => rw [e] at h; exact ha n o (by rw [e]; simpa using h)
theorem Hp.add_dj {a b c : Hp} (ha : Hp.dj a c) (hb : Hp.dj b c) : Hp.dj (a.add b) c := fun n => by
  rcases ha n with e | e
  · rcases hb n with e' | e'
    · left; simp [Hp.add, e, e']
    · exact .inr e'
  · exact .inr e

/-- How memory is split: I does not change any more, h is what the code at hand may write, k is everybody else's. -/
structure Rel (I h k : Hp) (w : World) : Prop where
  Ion : I.on w
  hon : h.on w
  kon : k.on w
  Ih : I.dj h
  Ik : I.dj k
  hk : h.dj k

structure Os (w w' : World) : Prop where
  os : w'.os = w.os
  tape : w'.tape = w.tape
  output : w'.output = w.output
theorem Os.refl (w : World) : Os w w := ⟨rfl, rfl, rfl⟩
theorem Os.trans {a b c : World} (h : Os a b) (k : Os b c) : Os a c := ⟨k.os.trans h.os, k.tape.trans h.tape, k.output.trans h.output⟩

/-- Resources: each holds of a part of the heaplet of its own. What is left over is nobody's. -/
abbrev HP := Hp → Prop
def Sat : List HP → Hp → Prop
  | [], _ => True
  | A :: L, h => ∃ h1 h2, Hp.le h1 h ∧ Hp.le h2 h ∧ Hp.dj h1 h2 ∧ A h1 ∧ Sat L h2
theorem Sat.mono {L : List HP} {h h' : Hp} (s : Sat L h) (l : Hp.le h h') : Sat L h' := by
  cases L with
  | nil => trivial
  | cons A L => obtain ⟨h1, h2, a, b, c, d, e⟩ := s; exact ⟨h1, h2, a.trans l, b.trans l, c, d, e⟩
theorem Sat.swap {A B : HP} {L : List HP} {h : Hp} (s : Sat (A :: B :: L) h) : Sat (B :: A :: L) h := by
  obtain ⟨h1, h2, a, b, c, d, h3, h4, a', b', c', d', e⟩ := s
  exact ⟨h3, h1.add h4, a'.trans b, fun n o x => by
      simp only [Hp.add] at x
      cases y : h1 n with
      | none => rw [y] at x; exact b n o (b' n o (by simpa using x))
      | some z => rw [y] at x; exact a n o (by rw [y]; simpa using x),
    (Hp.add_dj (c.mono (.refl _) a') c'.symm).symm, d', h1, h4, Hp.le_add _ _, Hp.le_add' (c.mono (.refl _) b'), c.mono (.refl _) b', d, e⟩
theorem Sat.perm {L L' : List HP} (p : L.Perm L') : ∀ {h : Hp}, Sat L h → Sat L' h := by
  induction p with
  | nil => exact fun s => s
  | cons A _ ih => exact fun ⟨h1, h2, a, b, c, d, e⟩ => ⟨h1, h2, a, b, c, d, ih e⟩
  | swap A B L => exact fun s => s.swap
  | trans _ _ ih1 ih2 => exact fun s => ih2 (ih1 s)
theorem Sat.split {L1 L2 : List HP} : ∀ {h : Hp}, Sat (L1 ++ L2) h → ∃ h1 h2, Hp.le h1 h ∧ Hp.le h2 h ∧ Hp.dj h1 h2 ∧ Sat L1 h1 ∧ Sat L2 h2 := by
  induction L1 with
  | nil => exact fun {h} s => ⟨fun _ => none, h, fun _ _ e => (by cases e), .refl _, fun _ => .inl rfl, trivial, s⟩
  | cons A L ih =>
    rintro h ⟨h1, h2, a, b, c, d, e⟩
    obtain ⟨h3, h4, a', b', c', d', e'⟩ := ih e
    refine ⟨h1.add h3, h4, ?_, b'.trans b, Hp.add_dj (c.mono (.refl _) b') c', ⟨h1, h3, Hp.le_add _ _, Hp.le_add' (c.mono (.refl _) a'), c.mono (.refl _) a', d, d'⟩, e'⟩
    intro n o x
    simp only [Hp.add] at x
    cases y : h1 n with
    | none => rw [y] at x; exact b n o (a' n o (by simpa using x))
    | some z => rw [y] at x; exact a n o (by rw [y]; simpa using x)
theorem Sat.join {L1 L2 : List HP} {h h1 h2 : Hp} (a : Hp.le h1 h) (b : Hp.le h2 h) (c : Hp.dj h1 h2) (s1 : Sat L1 h1) (s2 : Sat L2 h2) : Sat (L1 ++ L2) h := by
  induction L1 generalizing h1 h with
  | nil => exact s2.mono b
  | cons A L ih =>
    obtain ⟨h3, h4, a', b', c', d', e'⟩ := s1
    exact ⟨h3, h4.add h2, a'.trans a, fun n o x => by
        simp only [Hp.add] at x
        cases y : h4 n with
        | none => rw [y] at x; exact b n o (by simpa using x)
        | some z => rw [y] at x; exact a n o (b' n o (by rw [y]; simpa using x)),
      (Hp.add_dj c'.symm (c.mono a' (.refl _)).symm).symm, d', ih (Hp.le_add _ _) (Hp.le_add' (c.mono b' (.refl _))) (c.mono b' (.refl _)) e'⟩
theorem perm_erase {α : Type} : ∀ (L : List α) (i : Nat) (hi : i < L.length), (L[i] :: L.eraseIdx i).Perm L
  | x :: L, 0, _ => .refl _
  | x :: L, i + 1, hi => by
    have := perm_erase L i (by simpa using hi)
    simp only [List.getElem_cons_succ, List.eraseIdx_cons_succ]
    exact (List.Perm.swap _ _ _).trans (this.cons x)
/-- The i-th resource is brought to the head. -/
theorem Sat.pull {L : List HP} {h : Hp} (s : Sat L h) (i : Nat) {A : HP} (e : L[i]? = some A) : Sat (A :: L.eraseIdx i) h := by
  refine Sat.perm ?_ s
  obtain ⟨hi, rfl⟩ := List.getElem?_eq_some_iff.1 e
  exact (perm_erase L i hi).symm
theorem Sat.put {L : List HP} {h : Hp} (i : Nat) {A : HP} (hi : i < L.length) (s : Sat (A :: L.eraseIdx i) h) : Sat (L.set i A) h := by
  refine Sat.perm ?_ s
  have h1 : i < (L.set i A).length := by simpa using hi
  have h2 := perm_erase _ i h1
  rw [List.getElem_set_self, List.eraseIdx_set_eq] at h2
  exact h2
/-- One block. -/
def blk (b : Nat) (o : Obj) : HP := fun h => h b = some o

/-! ### The rest of an activation -/
/-- The frame: function f; ro: the loop whose round it is (none: the function's own activation). -/
def fram (f : FuncId) (ro : Option Nat) (todo : List Item) (a : Act) : Frame :=
  { fn := f, tmps := a.tmps, todo, defers := a.defers, mode := .run, kind := .normal, roundOf := ro }
theorem fram_eq (f : FuncId) (ro : Option Nat) (todo : List Item) (a : Act) : fram f ro todo a = ({ (default : Frame) with fn := f, kind := .normal, roundOf := ro } : Frame).atR a todo := rfl
/-- From m on the activation comes to its end. -/
def Fin (P : Program) (f : FuncId) (ro : Option Nat) (cs : List Frame) (m : Machine) (R : Value → World → Prop) : Prop :=
  match ro with
  | none => ∃ v w' fr, R v w' ∧ Steps P m (lone fr cs w') ∧ fr.fn = f ∧ fr.leaving P w' (.returned v)
  | some _ => ∃ v w', R v w' ∧ ∃ c cs', cs = c :: cs' ∧ Steps P m (lone (c.finish v) cs' w')
theorem Fin.steps {P : Program} {f : FuncId} {ro : Option Nat} {cs : List Frame} {m m' : Machine} {R : Value → World → Prop} (s : Steps P m m') (h : Fin P f ro cs m' R) : Fin P f ro cs m R := by
  cases ro with
  | none => obtain ⟨v, w', fr, r, s', x⟩ := h; exact ⟨v, w', fr, r, s.trans s', x⟩
  | some l => obtain ⟨v, w', r, c, cs', e, s'⟩ := h; exact ⟨v, w', r, c, cs', e, s.trans s'⟩
theorem Fin.mono {P : Program} {f : FuncId} {ro : Option Nat} {cs : List Frame} {m : Machine} {R R' : Value → World → Prop} (h : Fin P f ro cs m R) (k : ∀ v w, R v w → R' v w) : Fin P f ro cs m R' := by
  cases ro with
  | none => obtain ⟨v, w', fr, r, s', x⟩ := h; exact ⟨v, w', fr, k _ _ r, s', x⟩
  | some l => obtain ⟨v, w', r, c, cs', e, s'⟩ := h; exact ⟨v, w', k _ _ r, c, cs', e, s'⟩
def Run (P : Program) (f : FuncId) (ro : Option Nat) (todo : List Item) (a : Act) (w : World) (R : Value → World → Prop) : Prop :=
  ∀ cs : List Frame, (ro.isSome = true → cs ≠ []) → Fin P f ro cs (lone (fram f ro todo a) cs w) R
theorem Run.mono {P : Program} {f : FuncId} {ro : Option Nat} {todo : List Item} {a : Act} {w : World} {R R' : Value → World → Prop} (h : Run P f ro todo a w R) (k : ∀ v w, R v w → R' v w) : Run P f ro todo a w R' :=
  fun cs hc => (h cs hc).mono k
theorem Run.steps {P : Program} {f : FuncId} {ro : Option Nat} {todo todo' : List Item} {a a' : Act} {w w' : World} {R : Value → World → Prop}
    (s : ∀ cs : List Frame, Steps P (lone (fram f ro todo a) cs w) (lone (fram f ro todo' a') cs w')) (h : Run P f ro todo' a' w' R) : Run P f ro todo a w R :=
  fun cs hc => (h cs hc).steps (s cs)

/-! ### What is known of the temporaries -/
def get (E : List (Nat × Value)) (t : Nat) : Option Value :=
  match E with
  | [] => none
  | (u, v) :: r => bif Nat.beq u t then some v else get r t
structure Env (N : Nat) (a : Act) (E : List (Nat × Value)) (D : List Deferred) : Prop where
  size : a.tmps.size = N
  vals : ∀ t v, get E t = some v → a.tmps.getD t undef = v
  dfs : a.defers = D
theorem Env.put {N : Nat} {a : Act} {E : List (Nat × Value)} {D : List Deferred} (h : Env N a E D) {d : Nat} (hd : Nat.blt d N = true) (v : Value) : Env N (a.put (some d) v) ((d, v) :: E) D := by
  have hd' : d < N := by simpa [Nat.blt_eq] using hd
  refine ⟨by simp [Act.put, h.size], fun t u e => ?_, by simp [Act.put, h.dfs]⟩
  simp only [get] at e
  cases c : Nat.beq d t with
  | true =>
    rw [c] at e
    have e' : d = t := Nat.eq_of_beq_eq_true c
    subst e'
    simp only [cond_true, Option.some.injEq] at e
    subst e
    simp [Act.put, Array.getD, h.size, hd']
  | false =>
    rw [c] at e
    have e' : d ≠ t := Nat.ne_of_beq_eq_false c
    simp only [cond_false] at e
    have := h.vals t u e
    simp only [Act.put]
    rw [← this]
    simp only [Array.getD_eq_getD_getElem?]
    rw [Array.getElem?_setIfInBounds_ne e']
/-- The value of an operand. -/
def evE (E : List (Nat × Value)) : Operand → Option Value
  | .tmp t => get E t
  | .const v => some v
  | .global g => some (.pointer (some ⟨g, 0, none⟩))
  | .func f => some (.func (.func f) #[] #[])
theorem Env.ev {N : Nat} {a : Act} {E : List (Nat × Value)} {D : List Deferred} (h : Env N a E D) {o : Operand} {v : Value} (e : evE E o = some v) : a.eval o = v := by
  cases o with
  | tmp t => exact h.vals t v e
  | const u => simpa [evE, Act.eval] using e
  | global g => simpa [evE, Act.eval] using e
  | func f => simpa [evE, Act.eval] using e
/-- What is known may be said anew, shorter. -/
theorem Env.weaken {N : Nat} {a : Act} {E E' : List (Nat × Value)} {D : List Deferred} (h : Env N a E D) (k : ∀ p ∈ E', get E p.1 = some p.2) : Env N a E' D := by
  refine ⟨h.size, ?_, h.dfs⟩
  have aux : ∀ (E' : List (Nat × Value)), (∀ p ∈ E', get E p.1 = some p.2) → ∀ t v, get E' t = some v → get E t = some v := by
    intro E'
    induction E' with
    | nil => intro _ t v e; cases e
    | cons p r ih =>
      intro k t v e
      simp only [get] at e
      cases c : Nat.beq p.1 t with
      | true =>
        rw [c] at e
        have e' : p.1 = t := Nat.eq_of_beq_eq_true c
        simp only [cond_true, Option.some.injEq] at e
        subst e'; subst e
        exact k p (by simp)
      | false => rw [c] at e; exact ih (fun q hq => k q (by simp [hq])) t v (by simpa using e)
  exact fun t v e => h.vals t v (aux E' k t v e)

/-! ### The judgement -/
/-- What stays the same through an activation: the program, the function, the round, how many temporaries, what is asked of the end. -/
structure Cx where
  P : Program
  f : FuncId
  ro : Option Nat
  N : Nat
  R : Value → Hp → HP
def Post (I k : Hp) (w : World) (R : Value → Hp → HP) (v : Value) (w' : World) : Prop :=
  ∃ I' h', I.le I' ∧ Rel I' h' k w' ∧ Os w w' ∧ R v I' h'
theorem Post.later {I I1 k : Hp} {w w1 : World} {R : Value → Hp → HP} {v : Value} {w' : World} (h : Post I1 k w1 R v w') (l : I.le I1) (o : Os w w1) : Post I k w R v w' :=
  let ⟨I', h', a, b, c, d⟩ := h; ⟨I', h', l.trans a, b, o.trans c, d⟩
def JJ (c : Cx) (todo : List Item) (E : List (Nat × Value)) (D : List Deferred) (I : Hp) (L : List HP) : Prop :=
  ∀ a w h k, Env c.N a E D → Sat L h → Rel I h k w → Run c.P c.f c.ro todo a w (Post I k w c.R)
/-- One turn of the machine, or several, that end in a state of which as much is known: whatever is new is some x of which Φ holds. -/
theorem JJ.turn {X : Type} {c : Cx} {todo todo' : List Item} {E : List (Nat × Value)} {E' : X → List (Nat × Value)} {D : List Deferred} {D' : X → List Deferred} {I : Hp} {I' : X → Hp} {L : List HP} {L' : X → List HP} (Φ : X → Prop)
    (hs : ∀ a w h k, Env c.N a E D → Sat L h → Rel I h k w → ∃ x a' w' h', Φ x ∧ Env c.N a' (E' x) (D' x) ∧ Sat (L' x) h' ∧ Rel (I' x) h' k w' ∧ I.le (I' x) ∧ Os w w' ∧
      ∀ cs : List Frame, Steps c.P (lone (fram c.f c.ro todo a) cs w) (lone (fram c.f c.ro todo' a') cs w'))
    (hJ : ∀ x, Φ x → JJ c todo' (E' x) (D' x) (I' x) (L' x)) : JJ c todo E D I L := by
  intro a w h k hE hS hR
  obtain ⟨x, a', w', h', hx, e1, e2, e3, e4, e5, st⟩ := hs a w h k hE hS hR
  exact Run.steps st ((hJ x hx a' w' h' k e1 e2 e3).mono fun v w'' p => p.later e4 e5)
/-- A turn that leaves memory alone. -/
theorem JJ.turn0 {c : Cx} {todo todo' : List Item} {E E' : List (Nat × Value)} {D : List Deferred} {I : Hp} {L : List HP}
    (hs : ∀ a w h k, Env c.N a E D → Sat L h → Rel I h k w → ∃ a', Env c.N a' E' D ∧
      ∀ cs : List Frame, Steps c.P (lone (fram c.f c.ro todo a) cs w) (lone (fram c.f c.ro todo' a') cs w))
    (hJ : JJ c todo' E' D I L) : JJ c todo E D I L :=
  JJ.turn (X := Unit) (E' := fun _ => E') (D' := fun _ => D) (I' := fun _ => I) (L' := fun _ => L) (fun _ => True)
    (fun a w h k hE hS hR => let ⟨a', e1, st⟩ := hs a w h k hE hS hR; ⟨(), a', w, h, trivial, e1, hS, hR, .refl _, .refl _, st⟩) fun _ _ => hJ
section rules
variable {c : Cx} {K : List Item} {E : List (Nat × Value)} {D : List Deferred} {I : Hp} {L : List HP}
theorem JJ.seq {x y : Code} (h : JJ c (.code x :: .code y :: K) E D I L) : JJ c (.code (.seq x y) :: K) E D I L :=
  JJ.turn0 (fun a _ _ _ hE _ _ => ⟨a, hE, fun cs => .one (by rw [fram_eq, fram_eq]; exact stepR_seq)⟩) h
theorem JJ.skip (h : JJ c K E D I L) : JJ c (.code .skip :: K) E D I L :=
  JJ.turn0 (fun a _ _ _ hE _ _ => ⟨a, hE, fun cs => .one (by rw [fram_eq, fram_eq]; exact stepR_skip)⟩) h
theorem JJ.label {l : Nat} (h : JJ c K E D I L) : JJ c (.code (.label l) :: K) E D I L :=
  JJ.turn0 (fun a _ _ _ hE _ _ => ⟨a, hE, fun cs => .one (by rw [fram_eq, fram_eq]; exact stepR_label)⟩) h
theorem JJ.inBlock {id : Nat} (h : JJ c K E D I L) : JJ c (.inBlock id :: K) E D I L :=
  JJ.turn0 (fun a _ _ _ hE _ _ => ⟨a, hE, fun cs => .one (by rw [fram_eq, fram_eq]; exact stepR_inBlock)⟩) h
theorem JJ.block {id : Nat} {x : Code} (h : JJ c (.code x :: .inBlock id :: K) E D I L) : JJ c (.code (.block id x) :: K) E D I L :=
  JJ.turn0 (fun a _ _ _ hE _ _ => ⟨a, hE, fun cs => .one (by rw [fram_eq, fram_eq]; exact stepR_block)⟩) h
theorem JJ.loop {x : Code} (h : JJ c (.code x :: .inLoop x :: K) E D I L) : JJ c (.code (.loop x) :: K) E D I L :=
  JJ.turn0 (fun a _ _ _ hE _ _ => ⟨a, hE, fun cs => .one (by rw [fram_eq, fram_eq]; exact stepR_loop)⟩) h
theorem JJ.inLoop {x : Code} (h : JJ c (.code x :: .inLoop x :: K) E D I L) : JJ c (.inLoop x :: K) E D I L :=
  JJ.turn0 (fun a _ _ _ hE _ _ => ⟨a, hE, fun cs => .one (by rw [fram_eq, fram_eq]; exact stepR_inLoop)⟩) h
theorem JJ.exit {id : Nat} {K' : List Item} (hk : exitTo id K = some K') (h : JJ c K' E D I L) : JJ c (.code (.exit id) :: K) E D I L :=
  JJ.turn0 (fun a _ _ _ hE _ _ => ⟨a, hE, fun cs => .one (by rw [fram_eq, fram_eq]; exact stepR_exit hk)⟩) h
theorem JJ.cond {o : Operand} {x y : Code} {b : Bool} (ho : evE E o = some (.bool b)) (h : JJ c (.code (bif b then x else y) :: K) E D I L) : JJ c (.code (.cond o x y) :: K) E D I L :=
  JJ.turn0 (fun a _ _ _ hE _ _ => ⟨a, hE, fun cs => .one (by
    rw [fram_eq, fram_eq, stepR_cond (hE.ev ho)]; cases b <;> rfl)⟩) h
theorem JJ.cond2 {o : Operand} {x y : Code} {b : Bool} (ho : evE E o = some (.bool b)) (ht : b = true → JJ c (.code x :: K) E D I L) (hf : b = false → JJ c (.code y :: K) E D I L) : JJ c (.code (.cond o x y) :: K) E D I L := by
  cases b with
  | true => exact JJ.cond ho (ht rfl)
  | false => exact JJ.cond ho (hf rfl)
theorem JJ.env {E' : List (Nat × Value)} (k : ∀ p ∈ E', get E p.1 = some p.2) (h : JJ c K E' D I L) : JJ c K E D I L :=
  fun a w hh kk hE hS hR => h a w hh kk (hE.weaken k) hS hR
theorem JJ.res {L' : List HP} (k : ∀ h, Sat L h → Sat L' h) (h : JJ c K E D I L') : JJ c K E D I L :=
  fun a w hh kk hE hS hR => h a w hh kk hE (k _ hS) hR
theorem JJ.pull (i : Nat) {A : HP} {L' : List HP} (e : L[i]? = some A) (e' : L.eraseIdx i = L') (h : JJ c K E D I (A :: L')) : JJ c K E D I L :=
  JJ.res (fun _ s => e' ▸ s.pull i e) h
theorem JJ.drop {A : HP} (h : JJ c K E D I L) : JJ c K E D I (A :: L) :=
  JJ.res (fun _ ⟨_, _, _, b, _, _, s⟩ => s.mono b) h
/-- A block that nobody writes any more. -/
theorem JJ.share {b : Nat} {o : Obj} (h : ∀ I', I.le I' → I' b = some o → JJ c K E D I' L) : JJ c K E D I (blk b o :: L) := by
  rintro a w hh kk hE ⟨h1, h2, l1, l2, d, hb, hS⟩ hR
  have hbw := hR.hon.mono l1 b o hb
  have e1 : I b = none := by
    rcases hR.Ih b with e | e
    · exact e
    · rw [l1 b o hb] at e; cases e
  have e2 : kk b = none := by
    rcases hR.hk b with e | e
    · rw [l1 b o hb] at e; cases e
    · exact e
  have e3 : h2 b = none := by
    rcases d b with e | e
    · rw [hb] at e; cases e
    · exact e
  have le : I.le (I.set b o) := fun n x e => by
    by_cases hn : n = b
    · subst hn; rw [e1] at e; cases e
    · rw [Hp.set_other _ _ hn]; exact e
  refine (h (I.set b o) le (Hp.set_same _ _ _) a w h2 kk hE hS ⟨?_, hR.hon.mono l2, hR.kon, ?_, ?_, hR.hk.mono l2 (.refl _)⟩).mono fun v w' p => p.later le (.refl _)
  · intro n x e
    by_cases hn : n = b
    · subst hn; rw [Hp.set_same] at e; cases e; exact hbw
    · rw [Hp.set_other _ _ hn] at e; exact hR.Ion n x e
  · intro n
    by_cases hn : n = b
    · subst hn; exact .inr e3
    · rw [Hp.set_other _ _ hn]; exact hR.Ih.mono (.refl _) l2 n
  · intro n
    by_cases hn : n = b
    · subst hn; exact .inr e2
    · rw [Hp.set_other _ _ hn]; exact hR.Ik n
/-- E' says nothing that E does not say (a chain of 'rfl's). -/
def covers (E : List (Nat × Value)) : List (Nat × Value) → Prop
  | [] => True
  | p :: r => get E p.1 = some p.2 ∧ covers E r
theorem covers_all {E : List (Nat × Value)} : ∀ {E' : List (Nat × Value)}, covers E E' → ∀ p ∈ E', get E p.1 = some p.2
  | _ :: _, h, _, hq => by
    rcases List.mem_cons.1 hq with rfl | hq
    · exact h.1
    · exact covers_all h.2 _ hq
theorem JJ.keep (E' : List (Nat × Value)) (k : covers E E') (h : JJ c K E' D I L) : JJ c K E D I L := JJ.env (covers_all k) h
/-- A bool that is not known: either way. -/
theorem JJ.split (d : Nat) {b : Bool} (hd : get E d = some (.bool b)) (ht : b = true → JJ c K ((d, .bool true) :: E) D I L) (hf : b = false → JJ c K ((d, .bool false) :: E) D I L) : JJ c K E D I L := by
  have key : ∀ b', b = b' → JJ c K ((d, .bool b') :: E) D I L → JJ c K E D I L := fun b' e h =>
    fun a w hh kk hE hS hR => h a w hh kk ⟨hE.size, fun t v e' => by
      simp only [get] at e'
      cases q : Nat.beq d t with
      | true =>
        rw [q] at e'
        have := Nat.eq_of_beq_eq_true q
        subst this
        simp only [cond_true, Option.some.injEq] at e'
        exact hE.vals d v (by rw [hd, e, e'])
      | false => rw [q] at e'; exact hE.vals t v (by simpa using e'), hE.dfs⟩ hS hR
  cases b with
  | true => exact key true rfl (ht rfl)
  | false => exact key false rfl (hf rfl)
/-- What is known behind a piece of code, said once. -/
theorem JJ.cut {X : Type} {it : Item} (E' : X → List (Nat × Value)) (I' : X → Hp) (L' : X → List HP) (Inv : X → Prop) (h : (∀ x, Inv x → JJ c K (E' x) D (I' x) (L' x)) → JJ c (it :: K) E D I L) (k : ∀ x, Inv x → JJ c K (E' x) D (I' x) (L' x)) : JJ c (it :: K) E D I L := h k
end rules
theorem not_t {b : Bool} (h : (!b) = true) : b = false := by simpa using h
theorem not_f {b : Bool} (h : (!b) = false) : b = true := by simpa using h
theorem of_decide_eq_true {p : Prop} [Decidable p] (h : decide p = true) : p := _root_.of_decide_eq_true h
theorem of_decide_eq_false {p : Prop} [Decidable p] (h : decide p = false) : ¬ p := _root_.of_decide_eq_false h
theorem wrap_id {x : Int} (h0 : -9223372036854775808 ≤ x) (h1 : x ≤ 9223372036854775807) : IntKind.i64.wrap x = x := by
  unfold IntKind.wrap; simp [IntKind.signed, IntKind.bits]; omega
theorem wrap_to {x z : Int} (h : x = z) (h0 : -9223372036854775808 ≤ x) (h1 : x ≤ 9223372036854775807) : IntKind.i64.wrap x = z := by rw [wrap_id h0 h1, h]
end Go.Proofs.Ytlcdafeoionnhaa
