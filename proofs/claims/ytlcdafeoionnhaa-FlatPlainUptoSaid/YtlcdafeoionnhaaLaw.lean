/- From a law's contract to its row. -/
import Derived.Test.YtlcdafeoionnhaaOpen
namespace Go.Proofs.Ytlcdafeoionnhaa
open Go Go.ChangeShapes Go.WideShapes Go.ChangeAt Go.RowKit
set_option linter.unusedSimpArgs false
set_option linter.unusedVariables false
section
variable {H : Type} {enc : TypeId × Value → H} {P : Program} {W W' : World}
/-- What is kept. -/
def Kept (W W' : World) : Prop := ∀ (b : Nat) (o : Obj), W.heap[b]? = some o → W'.heap[b]? = some o
theorem Kept.sameAt (h : Kept W W') {p : MemPlace} (hp : p.block < W.heap.size) : W.sameAt W' p := by
  have hb : W.heap[p.block]? = some W.heap[p.block] := Array.getElem?_eq_getElem hp
  have hb' := h _ _ hb
  cases p with
  | cell b off => simp only [MemPlace.block] at hb hb'; simp only [World.sameAt, World.cell?, hb, hb']
  | map b => simp only [MemPlace.block] at hb hb'; simp only [World.sameAt, hb, hb']
theorem Kept.trodAll (h : Kept W W') {base : Nat} {spare : Nat → Bool} {held : Bool} : ∀ {ts : List TypeId} {vs : List Value} {ds : List (DataW H)} {ps : List MemPlace}, DataW.TrodAll enc P W base spare held ts vs ds ps → (∀ p ∈ ps, p.block < W.heap.size) → DataW.TrodAll enc P W' base spare held ts vs ds ps
  | [], [], [], _, h1, _ => h1
  | _ :: _, _ :: _, _ :: _, _, ⟨p, q, ⟨n, h1⟩, h2, e⟩, hp => ⟨p, q, ⟨n, DataW.trod_carry n _ _ _ h1 fun x hx => h.sameAt (hp x (by rw [e]; exact List.mem_append_left _ hx))⟩, Kept.trodAll h h2 fun x hx => hp x (by rw [e]; exact List.mem_append_right _ hx), e⟩
theorem Kept.but (h : Kept W W') (ho : Os W W') (may : MemPlace → Prop) : W.keptBut W' may := by
  refine ⟨ho.os, ho.output, fun i hi => ?_⟩
  have hb : W.heap[i]? = some W.heap[i] := Array.getElem?_eq_getElem hi
  rw [h _ _ hb, hb]
  cases W.heap[i] <;> simp
theorem law_post {fn : Func} {s : ChangeSpec} {args : Array Value} {ds : List (DataW H)} {before : List MemPlace} {tb : TypeId} (hv : s.vars = []) (hs : s.fn H (ds ++ []) = { results := [.lit (.bool true)], args := ds }) (hr : fn.resultTypes = #[tb]) (ht : P.underlying tb = some .bool)
    (K : Kids P (· < P.types.size)) (full : ∀ t e, t < P.types.size → P.underlying t = some (.slice e) → 0 < P.cellsOf e) (hT : ∀ t ∈ fn.params.toList, t < P.types.size)
    (hW : DataW.Whole enc P fn.params.toList s.vars false W args.toList ds [] before) (hk : Kept W W') (ho : Os W W') : s.post enc P fn false true false false W args (.bool true) W' := by
  have hlt := hW.lt
  have hW' := hW
  obtain ⟨p, q, hA, hV, rfl, hfz, hnd⟩ := hW
  rw [hv] at hV
  obtain rfl : q = [] := hV
  rw [List.append_nil] at hlt hW'
  refine ⟨ds, [], p, [], p, [], hW', ?_, ?_, ?_, hk.but ho _, fun h => by cases h⟩
  · rw [hs, hr]
    exact ⟨[], [], shut_bool ht true, rfl, rfl⟩
  · rw [hs]
    exact hk.trodAll (DataW.TrodAll.respare K full hT hA fun x hx => by simpa using hlt x hx) hlt
  · rw [hv, hs]; rfl
/-- A law whose contract takes nothing but what it is handed. -/
theorem law_calls {fn : Func} {f : FuncId} {s : ChangeSpec} {args : Array Value} {ds : List (DataW H)} {before : List MemPlace} {tb : TypeId} (hF : Fn P f args (Hp.whole W) [] (Ret (X := Unit) (fun _ _ => True) (fun _ => .bool true) fun _ => []))
    (hv : s.vars = []) (hs : s.fn H (ds ++ []) = { results := [.lit (.bool true)], args := ds }) (hr : fn.resultTypes = #[tb]) (ht : P.underlying tb = some .bool)
    (K : Kids P (· < P.types.size)) (full : ∀ t e, t < P.types.size → P.underlying t = some (.slice e) → 0 < P.cellsOf e) (hT : ∀ t ∈ fn.params.toList, t < P.types.size)
    (hW : DataW.Whole enc P fn.params.toList s.vars false W args.toList ds [] before) : Calls P f args W fun e W' => ∃ v, e = .returned v ∧ s.post enc P fn false true false false W args v W' := by
  refine (hF W (fun _ => none) (fun _ => none) trivial ⟨Hp.whole_on W, fun _ _ h => (by cases h), fun _ _ h => (by cases h), fun _ => .inr rfl, fun _ => .inr rfl, fun _ => .inr rfl⟩).mono fun e W' ⟨v, he, I', h', l, R, o, x, _, hvv, _⟩ => ?_
  subst hvv
  exact ⟨_, he, law_post hv hs hr ht K full hT hW (fun b o hb => R.Ion _ _ (l _ _ hb)) o⟩
end
theorem kidsP : Kids Try.prog (· < Try.prog.types.size) := kids_rows (by kernel_rfl) (by kernel_rfl)
theorem fullP : ∀ t e, t < Try.prog.types.size → Try.prog.underlying t = some (.slice e) → 0 < Try.prog.cellsOf e := slices_full_of Try.prog (by kernel_rfl)
theorem ownP : ownKnob Try.prog.godebug = none := by kernel_rfl
/-- The wrap, the world's shape kept: 'returnsInHanded_of_cond' and 'returnsInHanded_of_change_shaped', joined. -/
theorem handed_shaped {H : Type} {enc : TypeId × Value → H} {a : Assume} {C : Checked} {os : Go.Os} {f : FuncId} {fn : Func} {s : OpenSpec} {k : (H : Type) → List (DataW H) → Bool} (hk : s.cond = some k) {F : Stop.Interp} {conds : List PathCond} {apart fresh handsOn again : Bool}
    (own : ownKnob C.prog.godebug = none) (started : os.Started) (noInit : C.prog.inits.idxOf? f = none) (hfn : C.prog.funcs[f]? = some fn)
    (witness : ∃ (w : World) (tape : Tape) (i : Input), w.os = os ∧ (w.forCall tape i).Shaped C.prog ∧ i.vars = [] ∧ Input.okWide C.prog (w.forCall tape i) .any w.heap.size f i ∧
      s.pre6 enc C.prog fn conds apart (w.forCall tape i).memory i.args ∧ a.holds C.prog (lone (Frame.enter C.prog f i.args .normal) [] (w.forCall tape i)))
    (contract : ∀ (W : World) (base : Nat) (args : Array Value) (ds gs : List (DataW H)) (before : List MemPlace),
      (∀ (j : Nat) t v, fn.params[j]? = some t → args[j]? = some v → Value.okWide C.prog W .any base t v) →
      DataW.Whole enc C.prog fn.params.toList s.vars apart W args.toList ds gs before → k H (ds ++ gs) = true → W.ShapedOpen C.prog →
      Calls C.prog f args W fun e W' => ∃ v, e = .returned v ∧ (s.at F).post enc C.prog fn apart fresh handsOn again W args v W') :
    ReturnsInHanded a C os f .any (s.pre6 enc C.prog fn conds apart) ((s.at F).post enc C.prog fn apart fresh handsOn again) := by
  refine returnsInHanded_of_calls own started noInit witness ?_
  intro w tape i _ hsh _ hok hpre hholds
  obtain ⟨_, _, _, fn', hfn', _, _, _, _, hval⟩ := hok
  have e : fn' = fn := Option.some.inj (hfn'.symm.trans hfn)
  subst e
  obtain ⟨ds, gs, before, hw, hc, hkk⟩ := (OpenSpec.pre_some hk conds apart _ _).1 hpre.1
  have hw' := DataW.Whole.of_heap (w' := w.forCall tape i) (by rfl) hw
  refine (contract (w.forCall tape i) w.heap.size i.args ds gs before hval hw' hkk hsh).mono fun e W' ⟨v, he, hp⟩ => ?_
  subst he
  exact ChangeSpec.post_blind hp
theorem mk_row {w : World} {a : Addr} {v : Value} (h : w.cell? a = some v) : Row (Hp.whole w) a [v] := cells_row (by simp) fun j u hj => by
  cases j with
  | zero => rw [add_zero', h]; exact hj
  | succ j => cases hj
theorem glP {W : World} (h : W.ShapedOpen Try.prog) : GL 0 (Hp.whole W) := by
  obtain ⟨m, hm⟩ := cell_of_shapedOpen_int (t := 3) (k := .i64) (zero := #[.int .i64 0]) h (g := 0) (of_decide_eq_true (by kernel_rfl)) (by kernel_rfl) rfl (by kernel_rfl) (by kernel_rfl) (by kernel_rfl)
  exact ⟨m, mk_row hm⟩
end Go.Proofs.Ytlcdafeoionnhaa
