/- The arguments, read as data; what a law's contract gives of its row. -/
import Derived.Test.YtlcdafeoionnhaaRows
import Derived.Test.YtlcdafeoionnhaaAuto
import Derived.JoinedCond
import Derived.ReadAgain
import Derived.ChangeSame
import Derived.RowKit
import Derived.Shelf.Vars
namespace Go.Proofs.Ytlcdafeoionnhaa
open Go Go.ChangeShapes Go.WideShapes Go.ChangeAt Go.RowKit
set_option linter.unusedSimpArgs false
set_option linter.unusedVariables false
def Hp.whole (w : World) : Hp := fun n => w.heap[n]?
theorem Hp.whole_on (w : World) : (Hp.whole w).on w := fun _ _ h => h
theorem add_zero' (a : Addr) : a.add 0 = a := by simp [Addr.add]
theorem add_add' (a : Addr) (i j : Nat) : (a.add i).add j = a.add (i + j) := by
  unfold Addr.add
  by_cases hi : i = 0 <;> by_cases hj : j = 0 <;> simp [hi, hj, Nat.add_assoc]
theorem cells_row {w : World} {a : Addr} {vs : List Value} (hne : vs ≠ []) (h : ∀ j v, vs[j]? = some v → w.cell? (a.add j) = some v) : Row (Hp.whole w) a vs := by
  match vs, hne with
  | v0 :: vs, _ =>
    have h0 := h 0 v0 rfl
    rw [add_zero'] at h0
    unfold World.cell? at h0
    split at h0
    · rename_i c t fz hb
      split at h0
      · cases h0
      · rename_i hs
        have hs' : a.spot = none := by cases hq : a.spot with | none => rfl | some z => rw [hq] at hs; exact absurd rfl hs
        refine ⟨hs', c, t, fz, hb, fun j v hj => ?_⟩
        have h1 := h j v hj
        by_cases hj0 : j = 0
        · subst hj0; rw [add_zero'] at h1; simpa [World.cell?, hb, hs'] using h1
        · simpa [World.cell?, Addr.add, hj0, hb] using h1
    · cases h0
theorem All2.snoc {α β : Type} {R : α → β → Prop} {l : List α} {m : List β} {a : α} {b : β} (h : All2 R l m) (hr : R a b) : All2 R (l ++ [a]) (m ++ [b]) := by
  induction h with
  | nil => exact .cons hr .nil
  | cons x _ ih => exact .cons x ih
section
variable {H : Type} {enc : TypeId × Value → H} {P : Program} {w : World} {base : Nat} {spare : Nat → Bool} {held : Bool}
/-- A slice, element by element. -/
theorem open_sl {α : Type} {sz : Nat} (hsz : 0 < sz) {Re : Hp → List Value → α → Prop} (bk : α → Nat) {t e : TypeId} (ht : P.underlying t = some (.slice e)) (hc : P.cellsOf e = sz) {fuel : Nat} {v : Value} {x : DataW H × List MemPlace} (h : DataW.trod enc P w base spare held fuel t [v] = some x)
    (he : ∀ cs y n, n + 1 = fuel → DataW.trod enc P w base spare held n e cs = some y → ∃ d, Re (Hp.whole w) cs d ∧ bk d ≤ Rows.uptoBulk y.1) :
    ∃ A cp ds, v = .slice A ds.length cp ∧ RSl Re sz (Hp.whole w) A ds.length cp ds ∧ (ds.map bk).sum + 1 ≤ Rows.uptoBulk x.1 := by
  rcases DataW.trod_slice ht h with ⟨e1, rfl⟩ | ⟨a, len, cap, elems, rest, n, hn, e1, rfl, hb, hl, hm, hlen, hel, _, _⟩
  · obtain rfl : v = .slice none 0 0 := by simpa using e1
    exact ⟨none, 0, [], rfl, ⟨rfl, [], .nil, .inl ⟨rfl, rfl⟩⟩, by simp [Rows.uptoBulk]⟩
  · obtain rfl : v = .slice (some a) len cap := by simpa using e1
    rw [hc] at hel
    have key : ∀ i, i ≤ len → ∃ css ds, All2 (fun cs d => cs.length = sz ∧ Re (Hp.whole w) cs d) css ds ∧ ds.length = i ∧ css.flatten.length = i * sz ∧ (∀ j v, css.flatten[j]? = some v → w.cell? (a.add j) = some v) ∧ (ds.map bk).sum ≤ Rows.uptoBulkAll ((elems.take i).map (·.1)) := by
      intro i
      induction i with
      | zero => intro _; exact ⟨[], [], .nil, rfl, by simp, by simp, by simp [Rows.uptoBulkAll]⟩
      | succ i ih =>
        intro hi
        obtain ⟨css, ds, h1, h2, h3, h4, h5⟩ := ih (by omega)
        have hx := hel i (by omega)
        have hlt : i < elems.length := by omega
        rw [List.getElem?_eq_getElem hlt] at hx
        obtain ⟨cs', hcs, hy⟩ := Option.bind_eq_some_iff.1 hx
        obtain ⟨_, hl', hcell⟩ := World.cells?_some hcs
        obtain ⟨d, hd, hbk⟩ := he cs' _ n hn.symm hy
        refine ⟨css ++ [cs'], ds ++ [d], h1.snoc ⟨hl', hd⟩, by simp [h2], by simp [h3, hl', Nat.add_mul], fun j v hj => ?_, ?_⟩
        · rw [List.flatten_append] at hj
          by_cases hjl : j < css.flatten.length
          · rw [List.getElem?_append_left hjl] at hj; exact h4 j v hj
          · rw [List.getElem?_append_right (by omega), h3] at hj
            simp only [List.flatten_cons, List.flatten_nil, List.append_nil] at hj
            have hjs : j - i * sz < sz := by have := (List.getElem?_eq_some_iff.1 hj).1; omega
            have := hcell (j - i * sz) hjs
            rw [add_add', show i * sz + (j - i * sz) = j from by omega] at this
            rw [this, hj]
        · rw [List.take_add_one, List.getElem?_eq_getElem hlt]
          simp only [Option.toList_some, List.map_append, List.map_cons, List.map_nil, List.sum_append, List.sum_cons, List.sum_nil]
          have e2 : ∀ (l r : List (DataW H)), Rows.uptoBulkAll (l ++ r) = Rows.uptoBulkAll l + Rows.uptoBulkAll r := by
            intro l r
            induction l with
            | nil => simp [Rows.uptoBulkAll]
            | cons x l ih => simp only [List.cons_append, Rows.uptoBulkAll, ih]; omega
          rw [e2]; simp only [Rows.uptoBulkAll]; omega
    obtain ⟨css, ds, h1, h2, h3, h4, h5⟩ := key len (Nat.le_refl _)
    subst h2
    refine ⟨some a, cap, ds, rfl, ⟨rfl, css, h1, ?_⟩, ?_⟩
    · by_cases h0 : ds.length = 0
      · exact .inl ⟨h0, List.eq_nil_of_length_eq_zero (by rw [h3, h0]; simp)⟩
      · refine .inr ⟨a, rfl, hl, cells_row (fun e => ?_) h4⟩
        rw [e] at h3
        have : 0 < ds.length * sz := Nat.mul_pos (by omega) hsz
        simp at h3; omega
    · rw [List.take_of_length_le (by omega)] at h5
      simp only [Rows.uptoBulk]
      omega
end
theorem Ex.szl_sum : ∀ l : List Ex, (l.map Ex.sz).sum = Ex.szl l
  | [] => rfl
  | a :: l => by simp only [List.map_cons, List.sum_cons, Ex.szl, Ex.szl_sum l]
theorem St.szl_sum : ∀ l : List St, (l.map St.sz).sum = St.szl l
  | [] => rfl
  | a :: l => by simp only [List.map_cons, List.sum_cons, St.szl, St.szl_sum l]
theorem Pc.szl_sum : ∀ l : List Pc, (l.map Pc.sz).sum = Pc.szl l
  | [] => rfl
  | a :: l => by simp only [List.map_cons, List.sum_cons, Pc.szl, Pc.szl_sum l]
theorem Oc.szl_sum : ∀ l : List Oc, (l.map Oc.sz).sum = Oc.szl l
  | [] => rfl
  | a :: l => by simp only [List.map_cons, List.sum_cons, Oc.szl, Oc.szl_sum l]
theorem cInt : Try.prog.cellsOf 3 = 1 := by kernel_rfl
theorem cI64 : Try.prog.cellsOf 2 = 1 := by kernel_rfl
theorem cStr : Try.prog.cellsOf 9 = 1 := by kernel_rfl
theorem cBool : Try.prog.cellsOf 4 = 1 := by kernel_rfl
theorem cXs : Try.prog.cellsOf 33 = 1 := by kernel_rfl
theorem cTs : Try.prog.cellsOf 23 = 1 := by kernel_rfl
theorem cPs : Try.prog.cellsOf 22 = 1 := by kernel_rfl
theorem cOs : Try.prog.cellsOf 24 = 1 := by kernel_rfl
theorem cX : Try.prog.cellsOf 53 = 4 := by kernel_rfl
theorem cT : Try.prog.cellsOf 35 = 7 := by kernel_rfl
theorem cP : Try.prog.cellsOf 44 = 2 := by kernel_rfl
theorem cO : Try.prog.cellsOf 55 = 5 := by kernel_rfl
theorem cG : Try.prog.cellsOf 26 = 4 := by kernel_rfl
section
variable {H : Type} {enc : TypeId × Value → H} {w : World} {base : Nat} {spare : Nat → Bool} {held : Bool}
theorem len2 {α : Type} : ∀ {l : List α}, l.length = 2 → ∃ a b, l = [a, b]
  | [a, b], _ => ⟨a, b, rfl⟩
theorem len4 {α : Type} : ∀ {l : List α}, l.length = 4 → ∃ a b c d, l = [a, b, c, d]
  | [a, b, c, d], _ => ⟨a, b, c, d, rfl⟩
theorem len5 {α : Type} : ∀ {l : List α}, l.length = 5 → ∃ a b c d e, l = [a, b, c, d, e]
  | [a, b, c, d, e], _ => ⟨a, b, c, d, e, rfl⟩
theorem len7 {α : Type} : ∀ {l : List α}, l.length = 7 → ∃ a b c d e f g, l = [a, b, c, d, e, f, g]
  | [a, b, c, d, e, f, g], _ => ⟨a, b, c, d, e, f, g, rfl⟩
theorem openX : ∀ (fuel : Nat) (cs : List Value) (x : DataW H × List MemPlace), DataW.trod enc Try.prog w base spare held fuel 53 cs = some x → ∃ e, RE fuel (Hp.whole w) cs e ∧ e.sz ≤ Rows.uptoBulk x.1 := by
  intro fuel
  induction fuel using Nat.strongRecOn with
  | _ fuel ih =>
    intro cs x h
    obtain ⟨xs, n, rfl, rfl, hcl, hxl, hf⟩ := DataW.trod_struct Try.underlying53 h
    rw [cX] at hcl
    obtain ⟨c0, c1, c2, c3, rfl⟩ := len4 hcl
    obtain ⟨y0, y1, y2, y3, rfl⟩ := len4 hxl
    have h0 : DataW.trod enc Try.prog w base spare held n 3 [c0] = some y0 := by
      have e := hf 0 _ rfl
      change DataW.trod enc Try.prog w base spare held n 3 (List.take (Try.prog.cellsOf 3) (List.drop 0 [c0, c1, c2, c3])) = some y0 at e
      rw [cInt] at e; exact e
    have h1 : DataW.trod enc Try.prog w base spare held n 2 [c1] = some y1 := by
      have e := hf 1 _ rfl
      change DataW.trod enc Try.prog w base spare held n 2 (List.take (Try.prog.cellsOf 2) (List.drop 1 [c0, c1, c2, c3])) = some y1 at e
      rw [cI64] at e; exact e
    have h2 : DataW.trod enc Try.prog w base spare held n 9 [c2] = some y2 := by
      have e := hf 2 _ rfl
      change DataW.trod enc Try.prog w base spare held n 9 (List.take (Try.prog.cellsOf 9) (List.drop 2 [c0, c1, c2, c3])) = some y2 at e
      rw [cStr] at e; exact e
    have h3 : DataW.trod enc Try.prog w base spare held n 33 [c3] = some y3 := by
      have e := hf 3 _ rfl
      change DataW.trod enc Try.prog w base spare held n 33 (List.take (Try.prog.cellsOf 33) (List.drop 3 [c0, c1, c2, c3])) = some y3 at e
      rw [cXs] at e; exact e
    obtain ⟨a, e0, _, _⟩ := DataW.trod_int Try.underlying3 (x := y0) h0
    obtain ⟨b, e1, _, _⟩ := DataW.trod_int Try.underlying2 (x := y1) h1
    obtain ⟨s, e2, _, _⟩ := DataW.trod_string Try.underlying9 (x := y2) h2
    obtain ⟨A, cp, ds, e3, hr, hb⟩ := open_sl (sz := 4) (by decide) (Re := RE n) Ex.sz Try.underlying33 cX (x := y3) (v := c3) h3 (fun cs y m hm hy => by
      obtain ⟨e, he, hs⟩ := ih m (by omega) cs y hy
      exact ⟨e, he.more (by omega), hs⟩)
    obtain rfl : c0 = .int .i64 a := by simpa using e0
    obtain rfl : c1 = .int .i64 b := by simpa using e1
    obtain rfl : c2 = .string s := by simpa using e2
    subst e3
    refine ⟨.mk a b s ds, ⟨A, _, cp, rfl, hr⟩, ?_⟩
    simp only [Ex.sz, Rows.uptoBulk, Rows.uptoBulkAll, List.map_cons, List.map_nil]
    rw [Ex.szl_sum] at hb
    omega
theorem openT : ∀ (fuel : Nat) (cs : List Value) (x : DataW H × List MemPlace), DataW.trod enc Try.prog w base spare held fuel 35 cs = some x → ∃ e, RS fuel (Hp.whole w) cs e ∧ e.sz ≤ Rows.uptoBulk x.1 := by
  intro fuel
  induction fuel using Nat.strongRecOn with
  | _ fuel ih =>
    intro cs x h
    obtain ⟨xs, n, rfl, rfl, hcl, hxl, hf⟩ := DataW.trod_struct Try.underlying35 h
    rw [cT] at hcl
    obtain ⟨c0, c1, c2, c3, c4, c5, c6, rfl⟩ := len7 hcl
    obtain ⟨y0, y1, y2, y3, y4, y5, y6, rfl⟩ := len7 hxl
    have h0 : DataW.trod enc Try.prog w base spare held n 3 [c0] = some y0 := by
      have e := hf 0 _ rfl
      change DataW.trod enc Try.prog w base spare held n 3 (List.take (Try.prog.cellsOf 3) (List.drop 0 [c0, c1, c2, c3, c4, c5, c6])) = some y0 at e
      rw [cInt] at e; exact e
    have h1 : DataW.trod enc Try.prog w base spare held n 9 [c1] = some y1 := by
      have e := hf 1 _ rfl
      change DataW.trod enc Try.prog w base spare held n 9 (List.take (Try.prog.cellsOf 9) (List.drop 1 [c0, c1, c2, c3, c4, c5, c6])) = some y1 at e
      rw [cStr] at e; exact e
    have h2 : DataW.trod enc Try.prog w base spare held n 2 [c2] = some y2 := by
      have e := hf 2 _ rfl
      change DataW.trod enc Try.prog w base spare held n 2 (List.take (Try.prog.cellsOf 2) (List.drop 2 [c0, c1, c2, c3, c4, c5, c6])) = some y2 at e
      rw [cI64] at e; exact e
    have h3 : DataW.trod enc Try.prog w base spare held n 33 [c3] = some y3 := by
      have e := hf 3 _ rfl
      change DataW.trod enc Try.prog w base spare held n 33 (List.take (Try.prog.cellsOf 33) (List.drop 3 [c0, c1, c2, c3, c4, c5, c6])) = some y3 at e
      rw [cXs] at e; exact e
    have h4 : DataW.trod enc Try.prog w base spare held n 23 [c4] = some y4 := by
      have e := hf 4 _ rfl
      change DataW.trod enc Try.prog w base spare held n 23 (List.take (Try.prog.cellsOf 23) (List.drop 4 [c0, c1, c2, c3, c4, c5, c6])) = some y4 at e
      rw [cTs] at e; exact e
    have h5 : DataW.trod enc Try.prog w base spare held n 23 [c5] = some y5 := by
      have e := hf 5 _ rfl
      change DataW.trod enc Try.prog w base spare held n 23 (List.take (Try.prog.cellsOf 23) (List.drop 5 [c0, c1, c2, c3, c4, c5, c6])) = some y5 at e
      rw [cTs] at e; exact e
    have h6 : DataW.trod enc Try.prog w base spare held n 4 [c6] = some y6 := by
      have e := hf 6 _ rfl
      change DataW.trod enc Try.prog w base spare held n 4 (List.take (Try.prog.cellsOf 4) (List.drop 6 [c0, c1, c2, c3, c4, c5, c6])) = some y6 at e
      rw [cBool] at e; exact e
    obtain ⟨a, e0, _, _⟩ := DataW.trod_int Try.underlying3 (x := y0) h0
    obtain ⟨s, e1, _, _⟩ := DataW.trod_string Try.underlying9 (x := y1) h1
    obtain ⟨b, e2, _, _⟩ := DataW.trod_int Try.underlying2 (x := y2) h2
    obtain ⟨A, cp, ds, e3, hr, hb⟩ := open_sl (sz := 4) (by decide) (Re := RE n) Ex.sz Try.underlying33 cX (x := y3) (v := c3) h3 (fun cs y m hm hy => by
      obtain ⟨e, he, hs⟩ := openX m cs y hy
      exact ⟨e, he.more (by omega), hs⟩)
    have sub : ∀ (c : Value) (y : DataW H × List MemPlace), DataW.trod enc Try.prog w base spare held n 23 [c] = some y → ∃ A cp ds, c = .slice A ds.length cp ∧ RSl (RS n) 7 (Hp.whole w) A ds.length cp ds ∧ (ds.map St.sz).sum + 1 ≤ Rows.uptoBulk y.1 := by
      intro c y hy
      exact open_sl (sz := 7) (by decide) (Re := RS n) St.sz Try.underlying23 cT (x := y) (v := c) hy (fun cs y m hm hy => by
        obtain ⟨e, he, hs⟩ := ih m (by omega) cs y hy
        exact ⟨e, he.more (by omega), hs⟩)
    obtain ⟨A1, cp1, ds1, e4, hr1, hb1⟩ := sub c4 y4 h4
    obtain ⟨A2, cp2, ds2, e5, hr2, hb2⟩ := sub c5 y5 h5
    obtain ⟨q, e6, _⟩ := DataW.trod_bool Try.underlying4 (x := y6) h6
    obtain rfl : c0 = .int .i64 a := by simpa using e0
    obtain rfl : c1 = .string s := by simpa using e1
    obtain rfl : c2 = .int .i64 b := by simpa using e2
    obtain rfl : c6 = .bool q := by simpa using e6
    subst e3 e4 e5
    refine ⟨.mk a s b ds ds1 ds2 q, ⟨A, _, cp, A1, _, cp1, A2, _, cp2, rfl, hr, hr1, hr2⟩, ?_⟩
    simp only [St.sz, Rows.uptoBulk, Rows.uptoBulkAll, List.map_cons, List.map_nil]
    rw [Ex.szl_sum] at hb
    rw [St.szl_sum] at hb1 hb2
    omega
theorem openTs {n : Nat} {c : Value} {y : DataW H × List MemPlace} (h : DataW.trod enc Try.prog w base spare held n 23 [c] = some y) : ∃ A cp ds, c = .slice A ds.length cp ∧ RSs n (Hp.whole w) A ds.length cp ds ∧ St.szl ds + 1 ≤ Rows.uptoBulk y.1 := by
  obtain ⟨A, cp, ds, e, hr, hb⟩ := open_sl (sz := 7) (by decide) (Re := RS n) St.sz Try.underlying23 cT (x := y) (v := c) h (fun cs y m hm hy => by
    obtain ⟨e, he, hs⟩ := openT m cs y hy
    exact ⟨e, he.more (by omega), hs⟩)
  rw [St.szl_sum] at hb
  exact ⟨A, cp, ds, e, hr, hb⟩
theorem RPc.more {I : Hp} {k k' : Nat} {cs : List Value} {x : Pc} (l : k ≤ k') : RPc k I cs x → RPc k' I cs x := fun ⟨A, m, cp, e, h⟩ => ⟨A, m, cp, e, h.more l⟩
theorem ROc.more {I : Hp} {k k' : Nat} {cs : List Value} {x : Oc} (l : k ≤ k') : ROc k I cs x → ROc k' I cs x := fun ⟨A, m, cp, e, h⟩ => ⟨A, m, cp, e, RE.more l h⟩
theorem openPc {fuel : Nat} {cs : List Value} {x : DataW H × List MemPlace} (h : DataW.trod enc Try.prog w base spare held fuel 44 cs = some x) : ∃ e, RPc fuel (Hp.whole w) cs e ∧ e.sz ≤ Rows.uptoBulk x.1 := by
  obtain ⟨xs, n, rfl, rfl, hcl, hxl, hf⟩ := DataW.trod_struct Try.underlying44 h
  rw [cP] at hcl
  obtain ⟨c0, c1, rfl⟩ := len2 hcl
  obtain ⟨y0, y1, rfl⟩ := len2 hxl
  have h0 : DataW.trod enc Try.prog w base spare held n 9 [c0] = some y0 := by
    have e := hf 0 _ rfl
    change DataW.trod enc Try.prog w base spare held n 9 (List.take (Try.prog.cellsOf 9) (List.drop 0 [c0, c1])) = some y0 at e
    rw [cStr] at e; exact e
  have h1 : DataW.trod enc Try.prog w base spare held n 23 [c1] = some y1 := by
    have e := hf 1 _ rfl
    change DataW.trod enc Try.prog w base spare held n 23 (List.take (Try.prog.cellsOf 23) (List.drop 1 [c0, c1])) = some y1 at e
    rw [cTs] at e; exact e
  obtain ⟨s, e0, _, _⟩ := DataW.trod_string Try.underlying9 (x := y0) h0
  obtain ⟨A, cp, ds, e1, hr, hb⟩ := openTs (y := y1) (c := c1) h1
  obtain rfl : c0 = .string s := by simpa using e0
  subst e1
  refine ⟨⟨s, ds⟩, ⟨A, _, cp, rfl, hr.more (by omega)⟩, ?_⟩
  simp only [Pc.sz, Rows.uptoBulk, Rows.uptoBulkAll, List.map_cons, List.map_nil]
  omega
theorem openOc {fuel : Nat} {cs : List Value} {x : DataW H × List MemPlace} (h : DataW.trod enc Try.prog w base spare held fuel 55 cs = some x) : ∃ e, ROc fuel (Hp.whole w) cs e ∧ e.sz ≤ Rows.uptoBulk x.1 := by
  obtain ⟨xs, n, rfl, rfl, hcl, hxl, hf⟩ := DataW.trod_struct Try.underlying55 h
  rw [cO] at hcl
  obtain ⟨c0, c1, c2, c3, c4, rfl⟩ := len5 hcl
  obtain ⟨y0, y1, rfl⟩ := len2 hxl
  have h0 : DataW.trod enc Try.prog w base spare held n 9 [c0] = some y0 := by
    have e := hf 0 _ rfl
    change DataW.trod enc Try.prog w base spare held n 9 (List.take (Try.prog.cellsOf 9) (List.drop 0 [c0, c1, c2, c3, c4])) = some y0 at e
    rw [cStr] at e; exact e
  have h1 : DataW.trod enc Try.prog w base spare held n 53 [c1, c2, c3, c4] = some y1 := by
    have e := hf 1 _ rfl
    change DataW.trod enc Try.prog w base spare held n 53 (List.take (Try.prog.cellsOf 53) (List.drop 1 [c0, c1, c2, c3, c4])) = some y1 at e
    rw [cX] at e; exact e
  obtain ⟨s, e0, _, _⟩ := DataW.trod_string Try.underlying9 (x := y0) h0
  obtain ⟨e, he, hb⟩ := openX n [c1, c2, c3, c4] y1 h1
  obtain rfl : c0 = .string s := by simpa using e0
  obtain ⟨A, m, cp, hcs, _⟩ := he.open
  simp only [List.cons.injEq, and_true] at hcs
  obtain ⟨rfl, rfl, rfl, rfl⟩ := hcs
  refine ⟨⟨s, e⟩, ⟨A, m, cp, rfl, he.more (by omega)⟩, ?_⟩
  simp only [Oc.sz, Rows.uptoBulk, Rows.uptoBulkAll, List.map_cons, List.map_nil]
  omega
set_option maxRecDepth 100000 in
/-- A program that is handed over. -/
theorem openPg {r : Reach} {b0 : Nat} {v : Value} {d : DataW H} {ps : List MemPlace} (hv : Value.okWide Try.prog w r b0 26 v) (h : DataW.Trod enc Try.prog w base spare held 26 v d ps) :
    ∃ cs p, v = .agg cs.toArray ∧ RP (Hp.whole w) cs p ∧ p.sz ≤ Rows.uptoBulk d := by
  obtain ⟨cs, rfl, hsz⟩ := okWide_struct Try.underlying26 hv
  obtain ⟨fuel, h⟩ := h
  obtain ⟨cl, rfl⟩ : ∃ cl : List Value, cs = cl.toArray := ⟨cs.toList, by simp⟩
  replace h : DataW.trod enc Try.prog w base spare held fuel 26 cl = some (d, ps) := h
  obtain ⟨xs, n, rfl, hx, hcl, hxl, hf⟩ := DataW.trod_struct Try.underlying26 h
  rw [cG] at hcl
  obtain ⟨c0, c1, c2, c3, rfl⟩ := len4 hcl
  obtain ⟨y0, y1, y2, y3, rfl⟩ := len4 hxl
  have h0 : DataW.trod enc Try.prog w base spare held n 22 [c0] = some y0 := by
    have e := hf 0 _ rfl
    change DataW.trod enc Try.prog w base spare held n 22 (List.take (Try.prog.cellsOf 22) (List.drop 0 [c0, c1, c2, c3])) = some y0 at e
    rw [cPs] at e; exact e
  have h1 : DataW.trod enc Try.prog w base spare held n 23 [c1] = some y1 := by
    have e := hf 1 _ rfl
    change DataW.trod enc Try.prog w base spare held n 23 (List.take (Try.prog.cellsOf 23) (List.drop 1 [c0, c1, c2, c3])) = some y1 at e
    rw [cTs] at e; exact e
  have h2 : DataW.trod enc Try.prog w base spare held n 23 [c2] = some y2 := by
    have e := hf 2 _ rfl
    change DataW.trod enc Try.prog w base spare held n 23 (List.take (Try.prog.cellsOf 23) (List.drop 2 [c0, c1, c2, c3])) = some y2 at e
    rw [cTs] at e; exact e
  have h3 : DataW.trod enc Try.prog w base spare held n 24 [c3] = some y3 := by
    have e := hf 3 _ rfl
    change DataW.trod enc Try.prog w base spare held n 24 (List.take (Try.prog.cellsOf 24) (List.drop 3 [c0, c1, c2, c3])) = some y3 at e
    rw [cOs] at e; exact e
  obtain ⟨A, cp, ds, e0, hr, hb⟩ := open_sl (sz := 2) (by decide) (Re := RPc n) Pc.sz Try.underlying22 cP (x := y0) (v := c0) h0 (fun cs y m hm hy => by
    obtain ⟨e, he, hs⟩ := openPc hy
    exact ⟨e, he.more (by omega), hs⟩)
  obtain ⟨A1, cp1, ds1, e1, hr1, hb1⟩ := openTs (y := y1) (c := c1) h1
  obtain ⟨A2, cp2, ds2, e2, hr2, hb2⟩ := openTs (y := y2) (c := c2) h2
  obtain ⟨A3, cp3, ds3, e3, hr3, hb3⟩ := open_sl (sz := 5) (by decide) (Re := ROc n) Oc.sz Try.underlying24 cO (x := y3) (v := c3) h3 (fun cs y m hm hy => by
    obtain ⟨e, he, hs⟩ := openOc hy
    exact ⟨e, he.more (by omega), hs⟩)
  subst e0 e1 e2 e3
  rw [Pc.szl_sum] at hb
  rw [Oc.szl_sum] at hb3
  refine ⟨_, ⟨ds, ds1, ds2, ds3⟩, rfl, RPg.x (k := n) ⟨A, _, cp, A1, _, cp1, A2, _, cp2, A3, _, cp3, rfl, hr, hr1, hr2, hr3⟩, ?_⟩
  obtain ⟨rfl, _⟩ := Prod.mk.inj hx
  simp only [Pg.sz, Rows.uptoBulk, Rows.uptoBulkAll, List.map_cons, List.map_nil]
  omega
end
end Go.Proofs.Ytlcdafeoionnhaa
