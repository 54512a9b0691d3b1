/- Rows of one's own: append, literals of structs and slices; rows that do not change any more. -/
import Derived.Test.YtlcdafeoionnhaaCall
namespace Go.Proofs.Ytlcdafeoionnhaa
open Go
set_option linter.unusedSimpArgs false
set_option linter.unusedVariables false

/-- A slice of n elements of type e (sz cells each) that nobody else writes: these cells. -/
def own (e : TypeId) (sz : Nat) (A : Option Addr) (n cp : Nat) (xs : List Value) : HP := fun h =>
  xs.length = n * sz ∧ ((A = none ∧ n = 0 ∧ cp = 0) ∨
    ∃ g cur, A = some ⟨g, 0, none⟩ ∧ h g = some (.cells cur e (0, 0)) ∧ n ≤ cp ∧ cur.size = cp * sz ∧ cur.toList.take (n * sz) = xs)
/-- The element type's zero value and its size in bytes. -/
def infoO (P : Program) (e : TypeId) : Option (Value × Nat) := (P.info? e).bind fun i => i.zero.map fun z => (z, i.bytes)
theorem infoO_ok {P : Program} {e : TypeId} {z : Value} {by' : Nat} (h : infoO P e = some (z, by')) : ∃ i, P.info? e = some i ∧ i.zero = some z ∧ i.bytes = by' := by
  unfold infoO at h
  cases hi : P.info? e with
  | none => rw [hi] at h; cases h
  | some i =>
    rw [hi] at h
    simp only [Option.bind_some] at h
    cases hz : i.zero with
    | none => rw [hz] at h; cases h
    | some z' =>
      rw [hz] at h
      simp only [Option.map_some, Option.some.injEq, Prod.mk.injEq] at h
      exact ⟨i, rfl, by rw [hz, h.1], h.2⟩
/-- What an append's second argument gives. -/
def SrcOk (P : Program) (sz : Nat) (tx : TypeId) (x : Value) (m : Nat) (news : List Value) (I : Hp) (L : List HP) : Prop := ∀ w h k, Sat L h → Rel I h k w → Src P sz tx x m news w
def sliceOfT (P : Program) (T : TypeId) : Bool := match P.underlying T with | some (.slice _) => true | _ => false
theorem sliceOfT_ok {P : Program} {T : TypeId} (h : sliceOfT P T = true) : ∃ e, P.underlying T = some (.slice e) := by
  unfold sliceOfT at h
  split at h
  · rename_i e he; exact ⟨e, he⟩
  · cases h
theorem SrcOk.ofBlk {P : Program} {sz : Nat} {tx : TypeId} {m cp : Nat} {news : List Value} {I : Hp} {L : List HP} (ht : sliceOfT P tx = true) {b off : Nat} {C : Array Value} {U : TypeId} {fz : Nat × Nat} (j : Nat) (hj : L[j]? = some (blk b (.cells C U fz))) (hn : (C.toList.drop off).take (m * sz) = news) (hl : news.length = m * sz) (h1 : ∀ u ∈ news, u.oneCell' = true) :
    SrcOk P sz tx (.slice (some ⟨b, off, none⟩) m cp) m news I L := by
  intro w h k hS hR
  obtain ⟨e, he⟩ := sliceOfT_ok ht
  obtain ⟨hh, h2, l1, _, _, hb, _⟩ := hS.pull j hj
  refine Src.ofSlice w he _ m cp news hl (fun jj u hu => (Row.of hb off).cell (hR.hon.mono l1) ?_) h1
  rw [← hn, List.getElem?_take] at hu
  split at hu
  · exact hu
  · cases hu
/-- A slice literal that was just made. -/
theorem SrcOk.ofLit {P : Program} {sz : Nat} {tx : TypeId} {m cp : Nat} {news : List Value} {I : Hp} {L : List HP} (ht : sliceOfT P tx = true) {b : Nat} {U : TypeId} {fz : Nat × Nat} (j : Nat) (hj : L[j]? = some (blk b (.cells news.toArray U fz))) (hl : news.length = m * sz) (h1 : ∀ u ∈ news, u.oneCell' = true) :
    SrcOk P sz tx (.slice (some ⟨b, 0, none⟩) m cp) m news I L :=
  SrcOk.ofBlk ht j hj (by rw [List.toList_toArray, List.drop_zero, List.take_of_length_le (by omega)]) hl h1
theorem SrcOk.ofRow {P : Program} {sz : Nat} {tx : TypeId} {m cp : Nat} {news : List Value} {I : Hp} {L : List HP} (ht : sliceOfT P tx = true) {a : Addr} (hr : Row I a news) (hl : news.length = m * sz) (h1 : ∀ u ∈ news, u.oneCell' = true) :
    SrcOk P sz tx (.slice (some a) m cp) m news I L := by
  intro w h k hS hR
  obtain ⟨e, he⟩ := sliceOfT_ok ht
  exact Src.ofSlice w he _ m cp news hl (fun jj u hu => hr.cell hR.Ion hu) h1
theorem SrcOk.ofOwn {P : Program} {sz : Nat} {tx : TypeId} {m cp : Nat} {news : List Value} {I : Hp} {L : List HP} (ht : sliceOfT P tx = true) {e : TypeId} {A : Option Addr} (j : Nat) (hj : L[j]? = some (own e sz A m cp news)) (h1 : ∀ u ∈ news, u.oneCell' = true) :
    SrcOk P sz tx (.slice A m cp) m news I L := by
  intro w h k hS hR
  obtain ⟨e', he⟩ := sliceOfT_ok ht
  obtain ⟨hh, h2, l1, _, _, ⟨hl, ho⟩, _⟩ := hS.pull j hj
  rcases ho with ⟨rfl, rfl, rfl⟩ | ⟨g, cur, rfl, hb, hc, hs, htk⟩
  · have : news = [] := List.eq_nil_of_length_eq_zero (by simpa using hl)
    subst this; exact Src.ofNil w he 0
  · refine Src.ofSlice w he _ m cp news hl (fun jj u hu => (Row.of hb 0).cell (hR.hon.mono l1) ?_) h1
    rw [← htk, List.getElem?_take] at hu
    split at hu
    · simpa using hu
    · cases hu
theorem SrcOk.ofNone {P : Program} {sz : Nat} {tx : TypeId} {I : Hp} {L : List HP} (ht : sliceOfT P tx = true) (cp : Nat) : SrcOk P sz tx (.slice Option.none 0 cp) 0 [] I L := by
  intro w h k hS hR
  obtain ⟨e, he⟩ := sliceOfT_ok ht
  exact Src.ofNil w he cp
theorem SrcOk.ofString {P : Program} {tx : TypeId} {I : Hp} {L : List HP} (ht : isStringT P tx = true) (s : ByteArray) : SrcOk P 1 tx (.string s) s.size (byteCells s) I L := by
  intro w h k hS hR
  unfold isStringT at ht
  split at ht
  · rename_i hu; exact Src.ofString w hu s
  · cases ht
theorem Sat.own_write {L : List HP} {h : Hp} {e : TypeId} {sz : Nat} {g n cp : Nat} {xs : List Value} {o' : Obj} {A' : HP} (s : Sat (own e sz (some ⟨g, 0, none⟩) n cp xs :: L) h) (hn : ∀ h1 : Hp, h1 g = some o' → A' h1) : Sat (A' :: L) (h.set g o') := by
  obtain ⟨h1, h2, l1, l2, d, hb, s2⟩ := s
  obtain ⟨_, ⟨hA, _⟩ | ⟨g', cur, hA, hg, _⟩⟩ := hb
  · cases hA
  · cases hA
    have hb : Sat (blk g (.cells cur e (0, 0)) :: L) h := ⟨h1, h2, l1, l2, d, hg, s2⟩
    obtain ⟨h3, h4, a, b, c, d', s4⟩ := (hb.write o').2
    exact ⟨h3, h4, a, b, c, hn _ d', s4⟩
theorem Rel.drew {I h k : Hp} {w : World} (hR : Rel I h k w) : Rel I h k w.drew := ⟨hR.Ion, hR.hon, hR.kon, hR.Ih, hR.Ik, hR.hk⟩
section
variable {c : Cx} {K : List Item} {E : List (Nat × Value)} {D : List Deferred} {I : Hp} {L : List HP} {ops : Array Oper} {i : Nat} {is : List Nat}
variable {dst : Option Nat} {ty : TypeId} {pos : String} {aft : Array Edge} {gd : Option (Nat × Bool)}
theorem JJ.ownNil (e : TypeId) (sz : Nat) (h : JJ c K E D I (own e sz none 0 0 [] :: L)) : JJ c K E D I L :=
  JJ.res (L' := own e sz none 0 0 [] :: L) (fun h s => ⟨fun _ => none, h, fun _ _ x => (by cases x), .refl _, fun _ => .inl rfl, ⟨by simp, .inl ⟨rfl, rfl, rfl⟩⟩, s⟩) h
/-- 'append' to a slice of one's own. -/
theorem JJ.append {T tx e : TypeId} {sz bytes : Nat} {z : Value} (hT : elemO c.P T = some (e, sz)) (hinf : infoO c.P e = some (z, bytes)) (hzs : z.cells.size = sz) {x y : Operand} {A : Option Addr} {n cp m : Nat} {xs news : List Value} {src : Value} (j : Nat) (rg : Reg c.N ops)
    (ho : ops[i]? = some ⟨dst, .call ⟨.builtin .append, #[x, y], #[T, tx]⟩, ty, pos, aft, gd⟩) (hg : wants ops E gd = some true) (hx : evE E x = some (.slice A n cp)) (hy : evE E y = some src) (hj : L[j]? = some (own e sz A n cp xs)) (hsrc : SrcOk c.P sz tx src m news I L)
    (hbd : (n + m) * (bytes + 1) ≤ 140737488355328)
    (hJ : ∀ A' c', JJ c (.inRegion ops is :: K) (putE dst (.slice A' (n + m) c') E) D I (L.set j (own e sz A' (n + m) c' (xs ++ news)))) : JJ c (.inRegion ops (i :: is) :: K) E D I L := by
  have hbd1 : n + m ≤ 140737488355328 := Nat.le_trans (Nat.le_mul_of_pos_right _ (by omega)) hbd
  have hbd2 : (n + m) * bytes ≤ 140737488355328 := Nat.le_trans (Nat.mul_le_mul_left _ (by omega)) hbd
  have hjl : j < L.length := (List.getElem?_eq_some_iff.1 hj).1
  refine JJ.op (X := Option Addr × Nat) (I' := fun _ => I) (L' := fun p => L.set j (own e sz p.1 (n + m) p.2 (xs ++ news))) rg ho hg (fun _ e => by cases e) (fun _ => True) (fun p => .slice p.1 (n + m) p.2) (fun a w h k hE hS hR => ?_) fun p _ => hJ p.1 p.2
  obtain ⟨hu, inf, hi, hsz⟩ := elemO_ok hT
  obtain ⟨inf', hi', hz, hby⟩ := infoO_ok hinf
  rw [hi] at hi'; cases hi'
  subst hsz
  have hs := hsrc w h k hS hR
  have hS' := hS.pull j hj
  have hS'' := hS'
  obtain ⟨h1, h2, l1, l2, d, ⟨hl, hcase⟩, s2⟩ := hS''
  have hrun : ∀ {v : Value} {w' : World}, (Builtin.append_ #[T, tx] ty #[.slice A n cp, src]).run c.P w = .ok v w' → (execOp a.eval ⟨dst, .call ⟨.builtin .append, #[x, y], #[T, tx]⟩, ty, pos, aft, gd⟩).run c.P w = .ok (.value v) w' := by
    intro v w' hr
    simp [execOp, resolve, hE.ev hx, hE.ev hy, invoke, builtin, hr]
  have hlen : (xs ++ news).length = (n + m) * inf.size := by rw [List.length_append, hl, hs.newsLen, Nat.add_mul]
  have grow : ∀ (hold : (Builtin.firstCells inf.size n (.slice A n cp)).run c.P w.drew = .ok xs.toArray w.drew), cp < n + m → ∃ p : Option Addr × Nat, ∃ nx w' h', True ∧ (execOp a.eval ⟨dst, .call ⟨.builtin .append, #[x, y], #[T, tx]⟩, ty, pos, aft, gd⟩).run c.P w = .ok nx w' ∧ nextIs nx (.slice p.1 (n + m) p.2) ∧ Sat (L.set j (own e inf.size p.1 (n + m) p.2 (xs ++ news))) h' ∧ Rel I h' k w' ∧ I.le I ∧ Os w w' := by
    intro hold hlt
    have hr := run_append_grow_src (P := c.P) w T tx ty e inf z hu hi hz A n cp xs hold src m news hs hlt (by omega) (by rw [hby]; exact growslice_fits (by omega) hbd2)
    refine ⟨(some ⟨w.heap.size, 0, none⟩, grownCap w (n + m) cp e), .value _, _, h.set w.heap.size _, trivial, hrun hr, .inl rfl, ?_, hR.drew.new _, .refl _, ⟨rfl, rfl, rfl⟩⟩
    refine Sat.put j hjl ?_
    have hsn := (s2.mono l2).new (.cells ((xs ++ news).toArray ++ Builtin.zeroCells z.cells (grownCap w (n + m) cp e - (n + m))) e) (hR.hon.fresh (Nat.le_refl _))
    obtain ⟨h3, h4, a3, a4, a5, a6, a7⟩ := hsn
    refine ⟨h3, h4, a3, a4, a5, ⟨hlen, .inr ⟨_, _, rfl, a6, grownCap_ge w (n + m) cp e, ?_, ?_⟩⟩, a7⟩
    · simp only [Array.size_append, List.size_toArray, size_zeroCells, hzs, hlen, ← Nat.add_mul]
      congr 1
      have := grownCap_ge w (n + m) cp e
      omega
    · rw [Array.toList_append, List.toList_toArray, ← hlen]; exact List.take_left
  rcases hcase with ⟨rfl, rfl, rfl⟩ | ⟨g, cur, rfl, hb, hnc, hcs, htk⟩
  · have hx0 : xs = [] := List.eq_nil_of_length_eq_zero (by simpa using hl)
    subst hx0
    by_cases hm : m = 0
    · subst hm
      have hn0 : news = [] := List.eq_nil_of_length_eq_zero (by simpa using hs.newsLen)
      subst hn0
      refine ⟨(none, 0), .value (.slice none 0 0), w, h, trivial, hrun ?_, .inl rfl, ?_, hR, .refl _, .refl _⟩
      · rcases hs.kind with ⟨e', hk⟩ | hk <;> simp [Builtin.append_, run_underlying hu, run_underlying hk, sizeOf, typeInfo, hi, hs.len, hs.cells]
      · refine Sat.put j hjl ?_
        exact ⟨h1, h2, l1, l2, d, ⟨by simp, .inl ⟨rfl, rfl, rfl⟩⟩, s2⟩
    · exact grow (by simp [Builtin.firstCells]) (by omega)
  · by_cases hroom : n + m ≤ cp
    · have hfit : n * inf.size + news.length ≤ cur.size := by rw [hs.newsLen, hcs, ← Nat.add_mul]; exact Nat.mul_le_mul_right _ hroom
      obtain ⟨w', hst, ho', hsz', hk', hb'⟩ := storeCells_run (P := c.P) news w cur (n * inf.size) 0 (hR.hon _ _ (l1 _ _ hb)) (by simpa using hfit) hs.one
      refine ⟨(some ⟨g, 0, none⟩, cp), .value _, w', h.set g _, trivial, hrun ?_, .inl rfl, ?_, hR.write (l1 _ _ hb) hsz' hk' hb', .refl _, ho'⟩
      · rcases hs.kind with ⟨e', hk⟩ | hk <;> simp [Builtin.append_, run_underlying hu, run_underlying hk, sizeOf, typeInfo, hi, hs.len, hroom, hs.cells, Addr.add_lit, hst]
      · refine Sat.put j hjl (Sat.own_write hS' fun h3 e3 => ⟨hlen, .inr ⟨g, _, rfl, e3, hroom, by rw [stC_size, hcs], ?_⟩⟩)
        rw [Nat.add_zero]
        have key : ∀ (vs : List Value) (C : Array Value) (off : Nat), off + vs.length ≤ C.size → (stC C off vs).toList.take (off + vs.length) = C.toList.take off ++ vs := by
          intro vs
          induction vs with
          | nil => intro C off _; simp [stC]
          | cons v vs ih =>
            intro C off hle
            simp only [List.length_cons] at hle
            simp only [stC, List.length_cons]
            rw [show off + (vs.length + 1) = off + 1 + vs.length from by omega, ih _ _ (by simp; omega)]
            rw [Array.toList_setIfInBounds, List.take_set, List.take_add_one]
            rw [List.set_append_right _ _ (by rw [List.length_take]; omega)]
            have hlt : off < C.toList.length := by simp; omega
            rw [List.getElem?_eq_getElem hlt]
            have : off - (C.toList.take off).length = 0 := by simp; omega
            rw [this]
            simp
        have hk2 := key news cur (n * inf.size) (by simpa using hfit)
        rw [htk] at hk2
        rw [Nat.add_mul, ← hs.newsLen]; exact hk2
    · refine grow ?_ (by omega)
      have hRw : Row h1 ⟨g, 0, none⟩ cur.toList := by simpa using Row.of hb 0
      have := run_firstCells_some (P := c.P) w.drew inf.size n ⟨g, 0, none⟩ n cp xs hl (fun jj u hu => by
        have : w.cell? ((⟨g, 0, none⟩ : Addr).add jj) = some u := hRw.cell (hR.hon.mono l1) (by
          rw [← htk, List.getElem?_take] at hu
          split at hu
          · exact hu
          · cases hu)
        exact this)
      exact this
end
end Go.Proofs.Ytlcdafeoionnhaa
