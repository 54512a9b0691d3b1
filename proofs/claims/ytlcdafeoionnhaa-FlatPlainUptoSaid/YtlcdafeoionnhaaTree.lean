/- Trees of one's own: slices whose elements own what they point to; what is one's own, given up to all. -/
import Derived.Test.YtlcdafeoionnhaaDrawR
namespace Go.Proofs.Ytlcdafeoionnhaa
open Go
set_option linter.unusedSimpArgs false
set_option linter.unusedVariables false
/-- The elements' resources. -/
def zO {α : Type} (O : List Value → α → HP) (css : List (List Value)) (ds : List α) : HP := fun h => Sat (List.zipWith O css ds) h
def OSl {α : Type} (O : List Value → α → HP) (e : TypeId) (sz : Nat) (A : Option Addr) (n cp : Nat) (ds : List α) : HP := fun h =>
  ∃ css : List (List Value), n = ds.length ∧ css.length = ds.length ∧ (∀ c ∈ css, c.length = sz ∧ ∀ u ∈ c, u.oneCell' = true) ∧ Sat [own e sz A n cp css.flatten, zO O css ds] h
theorem zO.snoc {α : Type} {O : List Value → α → HP} {css : List (List Value)} {ds : List α} {c : List Value} {d : α} {L : List HP} {h : Hp} (hl : css.length = ds.length) (s : Sat (O c d :: zO O css ds :: L) h) : Sat (zO O (css ++ [c]) (ds ++ [d]) :: L) h := by
  obtain ⟨h1, h2, a, b, c1, ho, h3, h4, a', b', c', hz, hL⟩ := s
  refine ⟨h1.add h3, h4, ?_, b'.trans b, Hp.add_dj (c1.mono (.refl _) b') c', ?_, hL⟩
  · intro n o x
    simp only [Hp.add] at x
    cases y : h1 n with
    | none => rw [y] at x; exact b n o (a' n o (by simpa using x))
    | some z => rw [y] at x; exact a n o (by rw [y]; simpa using x)
  · show Sat _ _
    rw [List.zipWith_append hl]
    have d13 : h1.dj h3 := c1.mono (.refl _) a'
    refine Sat.rot (A := List.zipWith O [c] [d]) ?_
    exact ⟨h1, h3, Hp.le_add _ _, Hp.le_add' d13, d13, ho, hz⟩
theorem zO.nil {α : Type} {O : List Value → α → HP} {L : List HP} {h : Hp} (s : Sat L h) : Sat (zO O [] [] :: L) h :=
  ⟨fun _ => none, h, fun _ _ e => (by cases e), .refl _, fun _ => .inl rfl, trivial, s⟩
theorem zipWith_get {α β γ : Type} {f : α → β → γ} {l : List α} {m : List β} {i : Nat} {a : α} {b : β} (ha : l[i]? = some a) (hb : m[i]? = some b) : (List.zipWith f l m)[i]? = some (f a b) := by
  rw [List.getElem?_zipWith, ha, hb]
theorem eraseIdx_set {α : Type} : ∀ (l : List α) (i : Nat) (a : α), (l.set i a).eraseIdx i = l.eraseIdx i
  | [], _, _ => rfl
  | _ :: _, 0, _ => rfl
  | x :: l, i + 1, a => by simp only [List.set_cons_succ, List.eraseIdx_cons_succ, eraseIdx_set l i a]
/-- An element's resources, taken out: what is left, and how it is put back. -/
def zX {α : Type} (O : List Value → α → HP) (css : List (List Value)) (ds : List α) (i : Nat) : HP := fun h => Sat ((List.zipWith O css ds).eraseIdx i) h
theorem zO.take {α : Type} {O : List Value → α → HP} {css : List (List Value)} {ds : List α} {L : List HP} {h : Hp} {i : Nat} {c : List Value} {d : α} (hc : css[i]? = some c) (hd : ds[i]? = some d) (s : Sat (zO O css ds :: L) h) : Sat (O c d :: zX O css ds i :: L) h := by
  obtain ⟨h1, h2, a, b, c1, hz, hL⟩ := s
  have hz' : Sat (List.zipWith O css ds) h1 := hz
  obtain ⟨h3, h4, a', b', c', ho, hx⟩ := hz'.pull i (zipWith_get hc hd)
  refine ⟨h3, h4.add h2, a'.trans a, ?_, (Hp.add_dj c'.symm (c1.mono a' (.refl _)).symm).symm, ho, h4, h2, Hp.le_add _ _, Hp.le_add' (c1.mono b' (.refl _)), c1.mono b' (.refl _), hx, hL⟩
  intro n o x
  simp only [Hp.add] at x
  cases y : h4 n with
  | none => rw [y] at x; exact b n o (by simpa using x)
  | some z => rw [y] at x; exact a n o (b' n o (by rw [y]; simpa using x))
theorem zipWith_set {α β γ : Type} {f : α → β → γ} : ∀ (l : List α) (m : List β) (i : Nat) (a : α) (b : β), List.zipWith f (l.set i a) (m.set i b) = (List.zipWith f l m).set i (f a b)
  | [], _, _, _, _ => by simp
  | _ :: _, [], _, _, _ => by simp
  | x :: l, y :: m, 0, a, b => by simp
  | x :: l, y :: m, i + 1, a, b => by simp only [List.set_cons_succ, List.zipWith_cons_cons, zipWith_set l m i a b]
theorem zO.put {α : Type} {O : List Value → α → HP} {css : List (List Value)} {ds : List α} {L : List HP} {h : Hp} {i : Nat} {c : List Value} {d : α} (hi : i < css.length) (hj : i < ds.length) (s : Sat (O c d :: zX O css ds i :: L) h) : Sat (zO O (css.set i c) (ds.set i d) :: L) h := by
  obtain ⟨h1, h2, a, b, c1, ho, h3, h4, a', b', c', hz, hL⟩ := s
  refine ⟨h1.add h3, h4, ?_, b'.trans b, Hp.add_dj (c1.mono (.refl _) b') c', ?_, hL⟩
  · intro n o x
    simp only [Hp.add] at x
    cases y : h1 n with
    | none => rw [y] at x; exact b n o (a' n o (by simpa using x))
    | some z => rw [y] at x; exact a n o (by rw [y]; simpa using x)
  · show Sat _ _
    rw [zipWith_set]
    have d13 : h1.dj h3 := c1.mono (.refl _) a'
    refine Sat.put i (by rw [List.length_zipWith]; omega) ?_
    exact ⟨h1, h3, Hp.le_add _ _, Hp.le_add' d13, d13, ho, hz⟩
/-- What is one's own is given up to all. -/
theorem JJ.freeze {c : Cx} {K : List Item} {E : List (Nat × Value)} {D : List Deferred} {I : Hp} {L : List HP} {A : HP} {Q : Hp → Prop} (hq : ∀ h, A h → Q h) (hm : ∀ I I', Hp.le I I' → Q I → Q I') (h : ∀ I', I.le I' → Q I' → JJ c K E D I' L) : JJ c K E D I (A :: L) := by
  rintro a w hh k hE ⟨h1, h2, l1, l2, d, hA, hS⟩ hR
  have dI1 : I.dj h1 := hR.Ih.mono (.refl _) l1
  have hR2 : Rel (I.add h1) h2 k w := ⟨Hp.add_on hR.Ion (hR.hon.mono l1), hR.hon.mono l2, hR.kon, Hp.add_dj (hR.Ih.mono (.refl _) l2) d, Hp.add_dj hR.Ik (hR.hk.mono l1 (.refl _)), hR.hk.mono l2 (.refl _)⟩
  exact (h (I.add h1) (Hp.le_add _ _) (hm _ _ (Hp.le_add' dI1) (hq h1 hA)) a w h2 k hE hS hR2).mono fun v w' p => p.later (Hp.le_add _ _) (.refl _)
theorem own_read {e : TypeId} {sz : Nat} {A : Option Addr} {n cp : Nat} {xs : List Value} {h : Hp} (s : own e sz A n cp xs h) : SlR h A n cp xs := by
  obtain ⟨hl, ⟨rfl, rfl, rfl⟩ | ⟨g, cur, rfl, hb, hn, hs, htk⟩⟩ := s
  · exact .inl ⟨rfl, List.eq_nil_of_length_eq_zero (by simpa using hl)⟩
  · refine .inr ⟨_, rfl, hn, rfl, cur, e, (0, 0), hb, fun j v hv => ?_⟩
    rw [← htk, List.getElem?_take] at hv
    split at hv
    · simpa using hv
    · cases hv
theorem zO.read {α : Type} {O : List Value → α → HP} {R : Hp → List Value → α → Prop} {sz : Nat} (hR : ∀ h cs d, O cs d h → R h cs d) (hm : ∀ h h' cs d, Hp.le h h' → R h cs d → R h' cs d) : ∀ {css : List (List Value)} {ds : List α} {h : Hp}, css.length = ds.length → (∀ c ∈ css, c.length = sz) → Sat (List.zipWith O css ds) h → All2 (fun cs d => cs.length = sz ∧ R h cs d) css ds
  | [], [], _, _, _, _ => .nil
  | c :: css, d :: ds, h, hl, hsz, ⟨h1, h2, a, b, _, ho, hs⟩ => .cons ⟨hsz c (by simp), hm _ _ _ _ a (hR _ _ _ ho)⟩ ((zO.read hR hm (by simpa using hl) (fun x hx => hsz x (by simp [hx])) hs).mono fun cs d x => ⟨x.1, hm _ _ _ _ b x.2⟩)
theorem OSl.read {α : Type} {O : List Value → α → HP} {R : Hp → List Value → α → Prop} {e : TypeId} {sz : Nat} {A : Option Addr} {n cp : Nat} {ds : List α} {h : Hp} (hR : ∀ h cs d, O cs d h → R h cs d) (hm : ∀ h h' cs d, Hp.le h h' → R h cs d → R h' cs d) (s : OSl O e sz A n cp ds h) : RSl R sz h A n cp ds := by
  obtain ⟨css, hn, hl, hc, h1, h2, a, b, _, ho, h3, h4, a', b', _, hz, _⟩ := s
  refine ⟨hn, css, ?_, (own_read ho).mono a⟩
  exact (zO.read hR hm hl (fun c hc' => (hc c hc').1) hz).mono fun cs d x => ⟨x.1, hm _ _ _ _ (a'.trans b) x.2⟩
theorem OSl.intro {α : Type} {O : List Value → α → HP} {e : TypeId} {sz : Nat} {A : Option Addr} {n cp : Nat} {css : List (List Value)} {ds : List α} {L : List HP} {h : Hp} (hn : n = ds.length) (hl : css.length = ds.length) (hc : ∀ c ∈ css, c.length = sz ∧ ∀ u ∈ c, u.oneCell' = true)
    (s : Sat (own e sz A n cp css.flatten :: zO O css ds :: L) h) : Sat (OSl O e sz A n cp ds :: L) h := by
  obtain ⟨h1, h2, a, b, c1, ho, h3, h4, a', b', c', hz, hL⟩ := s
  refine ⟨h1.add h3, h4, ?_, b'.trans b, Hp.add_dj (c1.mono (.refl _) b') c', ⟨css, hn, hl, hc, h1, h3, Hp.le_add _ _, Hp.le_add' (c1.mono (.refl _) a'), c1.mono (.refl _) a', ho, h3, fun _ => none, .refl _, fun _ _ x => (by cases x), fun _ => .inr rfl, hz, trivial⟩, hL⟩
  · intro n o x
    simp only [Hp.add] at x
    cases y : h1 n with
    | none => rw [y] at x; exact b n o (a' n o (by simpa using x))
    | some z => rw [y] at x; exact a n o (by rw [y]; simpa using x)
theorem OSl.elim {α : Type} {O : List Value → α → HP} {e : TypeId} {sz : Nat} {A : Option Addr} {n cp : Nat} {ds : List α} {c : Cx} {K : List Item} {E : List (Nat × Value)} {D : List Deferred} {I : Hp} {L : List HP}
    (h : ∀ css : List (List Value), n = ds.length → css.length = ds.length → (∀ c ∈ css, c.length = sz ∧ ∀ u ∈ c, u.oneCell' = true) → JJ c K E D I (own e sz A n cp css.flatten :: zO O css ds :: L)) : JJ c K E D I (OSl O e sz A n cp ds :: L) := by
  rintro a w hh k hE ⟨h1, h2, l1, l2, d, ⟨css, hn, hl, hc, hS⟩, hL⟩ hR
  exact h css hn hl hc a w hh k hE (Sat.join (L1 := [_, _]) l1 l2 d hS hL) hR
theorem JJ.peek {c : Cx} {K : List Item} {E : List (Nat × Value)} {D : List Deferred} {I : Hp} {L : List HP} {A : HP} {p : Prop} (hp : ∀ h, A h → p) (h : p → JJ c K E D I (A :: L)) : JJ c K E D I (A :: L) :=
  fun a w hh k hE hS hR => h (hp _ hS.choose_spec.choose_spec.2.2.2.1) a w hh k hE hS hR
theorem Sat.sub {L' L : List HP} (s : L'.Sublist L) : ∀ {h : Hp}, Sat L h → Sat L' h := by
  induction s with
  | slnil => exact fun s => s
  | cons a _ ih => exact fun ⟨_, _, _, b, _, _, s⟩ => (ih s).mono b
  | cons_cons a _ ih => exact fun ⟨h1, h2, a, b, c, d, s⟩ => ⟨h1, h2, a, b, c, d, ih s⟩
theorem JJ.exS {c : Cx} {K : List Item} {E : List (Nat × Value)} {D : List Deferred} {I : Hp} {L : List HP} {v : Value} {n : Nat} {Q : Option Addr → Nat → HP} (h : ∀ A cp, v = .slice A n cp → JJ c K E D I (Q A cp :: L)) : JJ c K E D I ((fun h => ∃ A cp, v = .slice A n cp ∧ Q A cp h) :: L) :=
  fun a w hh k hE ⟨h1, h2, l1, l2, d, ⟨A, cp, hv, hq⟩, hL⟩ hR => h A cp hv a w hh k hE ⟨h1, h2, l1, l2, d, hq, hL⟩ hR
theorem JJ.exA {c : Cx} {K : List Item} {E : List (Nat × Value)} {D : List Deferred} {I : Hp} {L : List HP} {v : Value} {Q : List Value → HP} (h : ∀ cs, v = .agg cs.toArray → JJ c K E D I (Q cs :: L)) : JJ c K E D I ((fun h => ∃ cs, v = .agg cs.toArray ∧ Q cs h) :: L) :=
  fun a w hh k hE ⟨h1, h2, l1, l2, d, ⟨cs, hv, hq⟩, hL⟩ hR => h cs hv a w hh k hE ⟨h1, h2, l1, l2, d, hq, hL⟩ hR
/-! ### Scripts of one's own -/
section
variable (te ts : TypeId)
def OE : Nat → List Value → Ex → HP
  | 0, _, _ => fun _ => False
  | k + 1, cs, x => fun h => ∃ A cp, cs = [.int .i64 x.op, .int .i64 x.n, .string x.s, .slice A x.x.length cp] ∧ OSl (OE k) te 4 A x.x.length cp x.x h
def OT : Nat → List Value → St → HP
  | 0, _, _ => fun _ => False
  | k + 1, cs, x => fun h => ∃ A cp A1 cp1 A2 cp2, cs = [.int .i64 x.op, .string x.s, .int .i64 x.n, .slice A x.e.length cp, .slice A1 x.body.length cp1, .slice A2 x.els.length cp2, .bool x.commit] ∧
      Sat [OSl (OE te k) te 4 A x.e.length cp x.e, OSl (OT k) ts 7 A1 x.body.length cp1 x.body, OSl (OT k) ts 7 A2 x.els.length cp2 x.els] h
def OP (k : Nat) (cs : List Value) (x : Pc) : HP := fun h => ∃ A cp, cs = [.string x.name, .slice A x.body.length cp] ∧ OSl (OT te ts k) ts 7 A x.body.length cp x.body h
def OO (k : Nat) (cs : List Value) (x : Oc) : HP := fun h => ∃ A cp, cs = [.string x.name, .int .i64 x.e.op, .int .i64 x.e.n, .string x.e.s, .slice A x.e.x.length cp] ∧ OSl (OE te k) te 4 A x.e.x.length cp x.e.x h
end
theorem OE.read {te : TypeId} : ∀ {k : Nat} {h : Hp} {cs : List Value} {x : Ex}, OE te k cs x h → RE k h cs x
  | 0, _, _, _, s => s
  | k + 1, h, cs, x, ⟨A, cp, e, s⟩ => ⟨A, _, cp, e, s.read (fun _ _ _ => OE.read) fun _ _ _ _ l r => r.mono l⟩
theorem OT.read {te ts : TypeId} : ∀ {k : Nat} {h : Hp} {cs : List Value} {x : St}, OT te ts k cs x h → RS k h cs x
  | 0, _, _, _, s => s
  | k + 1, h, cs, x, s => by
    obtain ⟨A, cp, A1, cp1, A2, cp2, e, h1, h2, a, b, _, s0, h3, h4, a', b', _, s1, h5, h6, a2, b2, _, s2, _⟩ := s
    have r0 : RSl (RE k) 4 h1 A x.e.length cp x.e := s0.read (fun _ _ _ => OE.read) fun _ _ _ _ l r => r.mono l
    have r1 : RSl (RS k) 7 h3 A1 x.body.length cp1 x.body := s1.read (fun _ _ _ => OT.read) fun _ _ _ _ l r => r.mono l
    have r2 : RSl (RS k) 7 h5 A2 x.els.length cp2 x.els := s2.read (fun _ _ _ => OT.read) fun _ _ _ _ l r => r.mono l
    have l1 : Hp.le h3 h := a'.trans b
    have l2 : Hp.le h5 h := (a2.trans b').trans b
    exact ⟨A, _, cp, A1, _, cp1, A2, _, cp2, e, r0.mono a fun _ _ _ r => r.mono a, r1.mono l1 fun _ _ _ r => r.mono l1, r2.mono l2 fun _ _ _ r => r.mono l2⟩
theorem OE.len {te k : Nat} {h : Hp} {cs : List Value} {x : Ex} (s : OE te k cs x h) : cs.length = 4 ∧ ∀ u ∈ cs, u.oneCell' = true := ⟨s.read.len, s.read.one⟩
theorem OT.len {te ts k : Nat} {h : Hp} {cs : List Value} {x : St} (s : OT te ts k cs x h) : cs.length = 7 ∧ ∀ u ∈ cs, u.oneCell' = true := ⟨s.read.len, s.read.one⟩
theorem OP.len {te ts k : Nat} {h : Hp} {cs : List Value} {x : Pc} (s : OP te ts k cs x h) : cs.length = 2 ∧ ∀ u ∈ cs, u.oneCell' = true := by
  obtain ⟨A, cp, rfl, _⟩ := s; refine ⟨rfl, ?_⟩; intro u hu; simp at hu; rcases hu with rfl | rfl <;> rfl
theorem OO.len {te k : Nat} {h : Hp} {cs : List Value} {x : Oc} (s : OO te k cs x h) : cs.length = 5 ∧ ∀ u ∈ cs, u.oneCell' = true := by
  obtain ⟨A, cp, rfl, _⟩ := s; refine ⟨rfl, ?_⟩; intro u hu; simp at hu; rcases hu with rfl | rfl | rfl | rfl | rfl <;> rfl
theorem OSl.mono {α : Type} {O : List Value → α → HP} {e : TypeId} {sz : Nat} {A : Option Addr} {n cp : Nat} {ds : List α} {h h' : Hp} (s : OSl O e sz A n cp ds h) (l : Hp.le h h') : OSl O e sz A n cp ds h' :=
  let ⟨css, a, b, c, d⟩ := s; ⟨css, a, b, c, d.mono l⟩
theorem OSl.imp {α : Type} {O O' : List Value → α → HP} {e : TypeId} {sz : Nat} {A : Option Addr} {n cp : Nat} {ds : List α} {h : Hp} (hO : ∀ cs d h, d ∈ ds → O cs d h → O' cs d h) (s : OSl O e sz A n cp ds h) : OSl O' e sz A n cp ds h := by
  obtain ⟨css, a, b, c, h1, h2, l1, l2, dj, ho, h3, h4, l3, l4, d2, hz, t⟩ := s
  refine ⟨css, a, b, c, h1, h2, l1, l2, dj, ho, h3, h4, l3, l4, d2, ?_, t⟩
  have key : ∀ (css : List (List Value)) (ds' : List α) (h : Hp), (∀ d ∈ ds', d ∈ ds) → Sat (List.zipWith O css ds') h → Sat (List.zipWith O' css ds') h := by
    intro css
    induction css with
    | nil => intro ds' h _ s; simpa using s
    | cons c css ih =>
      intro ds' h hm s
      cases ds' with
      | nil => simpa using s
      | cons d ds' =>
        obtain ⟨h1, h2, a, b, c1, ho, hs⟩ := s
        exact ⟨h1, h2, a, b, c1, hO _ _ _ (hm d (by simp)) ho, ih ds' h2 (fun x hx => hm x (by simp [hx])) hs⟩
  exact key css ds h3 (fun _ h => h) hz
theorem OE.more {te : TypeId} : ∀ {k k' : Nat} {cs : List Value} {x : Ex} {h : Hp}, k ≤ k' → OE te k cs x h → OE te k' cs x h
  | 0, _, _, _, _, _, s => s.elim
  | k + 1, k' + 1, cs, x, h, l, ⟨A, cp, e, s⟩ => ⟨A, cp, e, s.imp fun _ _ _ _ r => OE.more (by omega) r⟩
end Go.Proofs.Ytlcdafeoionnhaa
