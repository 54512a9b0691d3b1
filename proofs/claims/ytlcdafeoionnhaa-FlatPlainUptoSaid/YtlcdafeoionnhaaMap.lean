/- Maps whose keys are strings. -/
import Derived.Test.YtlcdafeoionnhaaOwn
namespace Go.Proofs.Ytlcdafeoionnhaa
open Go
set_option linter.unusedSimpArgs false
set_option linter.unusedVariables false
abbrev SMap := List (ByteArray × Value)
def SMap.find (m : SMap) (k : ByteArray) : Option Value := match m with
  | [] => none
  | (a, v) :: r => bif decide (k = a) then some v else SMap.find r k
def SMap.set (m : SMap) (k : ByteArray) (x : Value) : SMap := match m with
  | [] => [(k, x)]
  | (a, v) :: r => bif decide (k = a) then (a, x) :: r else (a, v) :: SMap.set r k x
def entsOf (es : List MapEntry) (m : SMap) : Prop := es.map (fun e => (e.key, e.val)) = m.map fun p => (Value.string p.1, p.2)
theorem ba_beq (a b : ByteArray) : (a == b) = decide (a = b) := by
  by_cases h : a = b
  · subst h
    rw [show (a == a) = (a.data == a.data) from by cases a; rfl]
    simp
  · rw [show (a == b) = (a.data == b.data) from by cases a; cases b; rfl]
    have : a.data ≠ b.data := fun e => h (ByteArray.ext e)
    simp [h, this]
/-- A map of one's own. -/
def mapR (b : Nat) (m : SMap) : HP := fun h => ∃ es clock, h b = some (.map es clock) ∧ entsOf es.toList m
/-- A map that does not change any more. -/
def MapI (I : Hp) (b : Nat) (m : SMap) : Prop := ∃ es clock, I b = some (.map es clock) ∧ entsOf es.toList m
theorem MapI.mono {I I' : Hp} {b : Nat} {m : SMap} (h : MapI I b m) (l : I.le I') : MapI I' b m := let ⟨es, c, e, k⟩ := h; ⟨es, c, l _ _ e, k⟩
/-- A map's key and element types, where the key is a string. -/
def smapT (P : Program) (T : TypeId) : Option TypeId :=
  match P.underlying T with
  | some (.map k e) => match P.underlying k with
    | some .string => some e
    | _ => none
  | _ => none
theorem smapT_ok {P : Program} {T e : TypeId} (h : smapT P T = some e) : ∃ k, P.underlying T = some (.map k e) ∧ P.underlying k = some .string := by
  unfold smapT at h
  split at h
  · rename_i k e' he
    split at h
    · rename_i hk; cases h; exact ⟨k, he, hk⟩
    · cases h
  · cases h
def findE (k : ByteArray) : List MapEntry → Nat → Option (Nat × Value)
  | [], _ => none
  | e :: es, i => match e.key with
    | .string a => bif decide (k = a) then some (i, e.val) else findE k es (i + 1)
    | _ => none
theorem findNow_str {k : ByteArray} : ∀ (es : List MapEntry) (m : SMap) (i : Nat), entsOf es m → Instr.findNow .string (.string k) es i = some (findE k es i) := by
  intro es
  induction es with
  | nil => intro m i _; rfl
  | cons e es ih =>
    intro m i h
    cases m with
    | nil => simp [entsOf] at h
    | cons p m =>
      simp only [entsOf, List.map_cons, List.cons.injEq, Prod.mk.injEq] at h
      obtain ⟨⟨hk, hv⟩, hr⟩ := h
      have hs : Instr.sameNow .string (.string k) (.string p.1) = some (decide (k = p.1)) := by
        simp [Instr.sameNow, ba_beq]
      simp only [Instr.findNow, hk, hs, findE]
      cases hd : decide (k = p.1) with
      | true => rfl
      | false => exact ih m (i + 1) hr
theorem findE_find {k : ByteArray} : ∀ (es : List MapEntry) (m : SMap) (i : Nat), entsOf es m → (findE k es i).map (·.2) = m.find k := by
  intro es
  induction es with
  | nil => intro m i h; cases m with | nil => rfl | cons _ _ => simp [entsOf] at h
  | cons e es ih =>
    intro m i h
    cases m with
    | nil => simp [entsOf] at h
    | cons p m =>
      simp only [entsOf, List.map_cons, List.cons.injEq, Prod.mk.injEq] at h
      obtain ⟨⟨hk, hv⟩, hr⟩ := h
      obtain ⟨a, v⟩ := p
      simp only [findE, hk, SMap.find]
      cases hd : decide (k = a) with
      | true => simp [hv]
      | false => simpa using ih m (i + 1) hr
theorem checkKey_str {P : Program} {w : World} {b : Bool} {t : TypeId} {k : ByteArray} (h : P.underlying t = some .string) : (Instr.checkKey b 10000 t (.string k)).run P w = .ok () w := by
  have key : ∀ n : Nat, (Instr.checkKey b (n + 1) t (.string k)).run P w = .ok () w := fun n => by simp [Instr.checkKey, underlying, h]
  exact key 9999
theorem findKey_str {P : Program} {w : World} {t : TypeId} {k : ByteArray} {es : List MapEntry} {m : SMap} (h : P.underlying t = some .string) (he : entsOf es m) : (Instr.findKey t (.string k) es).run P w = .ok (findE k es 0) w := by
  simp only [Instr.findKey, Sem.run_bind, underlying, run_program, Result.andThen_ok, h, Sem.run_pure, findNow_str es m 0 he]
theorem lookup_run {P : Program} {w : World} {T e : TypeId} {b : Nat} {k : ByteArray} {m : SMap} {es : Array MapEntry} {clock : Nat} {z : Value} {ok : Bool} (hT : smapT P T = some e) (hz : zeroOf P e = some z) (hb : w.heap[b]? = some (.map es clock)) (he : entsOf es.toList m) :
    (Instr.lookup T (.map (some b)) (.string k) ok).run P w = .ok (if ok then .tuple #[(m.find k).getD z, .bool (m.find k).isSome] else (m.find k).getD z) w := by
  obtain ⟨kt, h1, h2⟩ := smapT_ok hT
  have hf := findE_find (k := k) es.toList m 0 he
  simp only [Instr.lookup, Sem.run_bind, underlying, run_program, Result.andThen_ok, h1, Sem.run_pure, run_getObj_at hb (by intros; simp), checkKey_str h2, findKey_str h2 he]
  cases hc : findE k es.toList 0 with
  | none =>
    rw [hc] at hf
    simp only [Option.map_none] at hf
    rw [← hf]
    simp only [Sem.run_bind, zeroOf_run hz, Result.andThen_ok, Sem.run_pure]
    cases ok <;> rfl
  | some p =>
    rw [hc] at hf
    simp only [Option.map_some] at hf
    rw [← hf]
    cases ok <;> rfl
theorem find_mod {k : ByteArray} {x : Value} : ∀ (es : List MapEntry) (m : SMap) (i : Nat), entsOf es m →
    match findE k es i with
    | none => m.set k x = m ++ [(k, x)]
    | some (j, _) => ∃ e, i ≤ j ∧ es[j - i]? = some e ∧ e.key = .string k ∧ entsOf (es.modify (j - i) fun e => { e with key := .string k, val := x }) (m.set k x) := by
  intro es
  induction es with
  | nil => intro m i h; cases m with | nil => rfl | cons _ _ => simp [entsOf] at h
  | cons e es ih =>
    intro m i h
    cases m with
    | nil => simp [entsOf] at h
    | cons p m =>
      have h0 := h
      simp only [entsOf, List.map_cons, List.cons.injEq, Prod.mk.injEq] at h
      obtain ⟨⟨hk, hv⟩, hr⟩ := h
      obtain ⟨a, v⟩ := p
      dsimp only at hk hv
      simp only [findE, hk]
      by_cases hd : k = a
      · subst hd
        simp only [decide_true, cond_true, SMap.set]
        refine ⟨e, Nat.le_refl _, by simp, hk, ?_⟩
        simp only [Nat.sub_self, List.modify_zero_cons, entsOf, List.map_cons]
        rw [show es.map (fun e => (e.key, e.val)) = m.map (fun p => (Value.string p.1, p.2)) from hr]
      · have hdd : decide (k = a) = false := by simpa using hd
        simp only [hdd, cond_false, SMap.set]
        have := ih m (i + 1) hr
        split at this
        · rw [this]; rfl
        · rename_i j v' hn
          obtain ⟨e', h1, h2, h3, h4⟩ := this
          have hj : j - i = (j - (i + 1)) + 1 := by omega
          refine ⟨e', by omega, by rw [hj]; simpa using h2, h3, ?_⟩
          rw [hj, List.modify_succ_cons]
          simp only [entsOf, List.map_cons, hk, hv] at h4 ⊢
          rw [h4]
theorem mapUpdate_run {P : Program} {w : World} {T e : TypeId} {b : Nat} {k : ByteArray} {m : SMap} {es : Array MapEntry} {clock : Nat} {x : Value} (hT : smapT P T = some e) (hb : w.heap[b]? = some (.map es clock)) (he : entsOf es.toList m) :
    ∃ es' clock', (Instr.mapUpdate T (.map (some b)) (.string k) x).run P w = .ok () { w with heap := w.heap.setIfInBounds b (.map es' clock') } ∧ entsOf es'.toList (m.set k x) := by
  obtain ⟨kt, h1, h2⟩ := smapT_ok hT
  have hf := find_mod (k := k) (x := x) es.toList m 0 he
  cases hc : findE k es.toList 0 with
  | none =>
    rw [hc] at hf
    dsimp only at hf
    refine ⟨es.push { key := .string k, val := x, born := clock }, clock + 1, ?_, ?_⟩
    · simp only [Instr.mapUpdate, Sem.run_bind, underlying, run_program, Result.andThen_ok, h1, Sem.run_pure, run_getObj_at hb (by intros; simp), checkKey_str h2, findKey_str h2 he, hc, run_setObj_at hb (by intros; simp)]
    · rw [hf]
      simp only [entsOf, Array.toList_push, List.map_append, List.map_cons, List.map_nil]
      rw [show es.toList.map (fun e => (e.key, e.val)) = m.map (fun p => (Value.string p.1, p.2)) from he]
  | some p =>
    obtain ⟨j, v⟩ := p
    rw [hc] at hf
    dsimp only at hf
    obtain ⟨e', _, h3, h4, h5⟩ := hf
    rw [Nat.sub_zero] at h3 h5
    have hj : es[j]? = some e' := by simpa using h3
    have hsb : Instr.sameBits 10000 (.string k) (.string k) = true := by
      have key : ∀ n : Nat, Instr.sameBits (n + 1) (.string k) (.string k) = true := fun n => by simp [Instr.sameBits, ba_beq]
      exact key 9999
    refine ⟨es.modify j fun e => { e with key := .string k, val := x }, clock, ?_, ?_⟩
    · simp only [Instr.mapUpdate, Sem.run_bind, underlying, run_program, Result.andThen_ok, h1, Sem.run_pure, run_getObj_at hb (by intros; simp), checkKey_str h2, findKey_str h2 he, hc, hj, Option.map_some, Option.getD_some, h4, Instr.keyThatStays, hsb, if_true, run_setObj_at hb (by intros; simp)]
    · rw [Array.toList_modify]; exact h5
section
variable {c : Cx} {K : List Item} {E : List (Nat × Value)} {D : List Deferred} {I : Hp} {L : List HP} {ops : Array Oper} {i : Nat} {is : List Nat}
variable {dst : Option Nat} {ty : TypeId} {pos : String} {aft : Array Edge} {gd : Option (Nat × Bool)}
theorem JJ.makeMap {T : TypeId} (rg : Reg c.N ops) (ho : ops[i]? = some ⟨dst, .makeMap T none, ty, pos, aft, gd⟩) (hg : wants ops E gd = some true)
    (hJ : ∀ b : Nat, JJ c (.inRegion ops is :: K) (putE dst (.map (some b)) E) D I (mapR b [] :: L)) : JJ c (.inRegion ops (i :: is) :: K) E D I L :=
  JJ.op (X := Nat) (I' := fun _ => I) (L' := fun b => mapR b [] :: L) rg ho hg (fun _ e => by cases e) (fun _ => True) (fun b => .map (some b))
    (fun a w h k hE hS hR => by
      refine ⟨w.heap.size, _, _, h.set w.heap.size (.map #[] 0), trivial, by simp [execOp, Instr.makeMap], .inl rfl, ?_, hR.new _, .refl _, ⟨rfl, rfl, rfl⟩⟩
      obtain ⟨h1, h2, l1, l2, d, hb, s2⟩ := hS.new (.map #[] 0) (hR.hon.fresh (Nat.le_refl w.heap.size))
      exact ⟨h1, h2, l1, l2, d, ⟨#[], 0, hb, rfl⟩, s2⟩) fun b _ => hJ b
theorem JJ.lookup {T e : TypeId} {z : Value} (hT : smapT c.P T = some e) (hz : zeroOf c.P e = some z) {x y : Operand} {b : Nat} {k : ByteArray} {m : SMap} {v : Value} (j : Nat) (rg : Reg c.N ops) (ho : ops[i]? = some ⟨dst, .lookup T x y false, ty, pos, aft, gd⟩) (hg : wants ops E gd = some true)
    (hx : evE E x = some (.map (some b))) (hy : evE E y = some (.string k)) (hj : L[j]? = some (mapR b m)) (hv : (m.find k).getD z = v) (hJ : JJ c (.inRegion ops is :: K) (putE dst v E) D I L) : JJ c (.inRegion ops (i :: is) :: K) E D I L :=
  JJ.op0 rg ho hg (fun _ e => by cases e) (fun A w h kk hE hS hR => by
    obtain ⟨h1, h2, l1, _, _, ⟨es, clock, hb, he⟩, _⟩ := hS.pull j hj
    have := lookup_run (ok := false) (k := k) hT hz (hR.hon.mono l1 _ _ hb) he
    exact ⟨.value v, by simp [execOp, hE.ev hx, hE.ev hy, this, hv], .inl rfl⟩) hJ
theorem JJ.lookupOk {T e : TypeId} {z : Value} (hT : smapT c.P T = some e) (hz : zeroOf c.P e = some z) {x y : Operand} {b : Nat} {k : ByteArray} {m : SMap} (j : Nat) (rg : Reg c.N ops) (ho : ops[i]? = some ⟨dst, .lookup T x y true, ty, pos, aft, gd⟩) (hg : wants ops E gd = some true)
    (hx : evE E x = some (.map (some b))) (hy : evE E y = some (.string k)) (hj : L[j]? = some (mapR b m)) (hJ : JJ c (.inRegion ops is :: K) (putE dst (.tuple #[(m.find k).getD z, .bool (m.find k).isSome]) E) D I L) : JJ c (.inRegion ops (i :: is) :: K) E D I L :=
  JJ.op0 rg ho hg (fun _ e => by cases e) (fun A w h kk hE hS hR => by
    obtain ⟨h1, h2, l1, _, _, ⟨es, clock, hb, he⟩, _⟩ := hS.pull j hj
    have := lookup_run (ok := true) (k := k) hT hz (hR.hon.mono l1 _ _ hb) he
    exact ⟨.value _, by simp [execOp, hE.ev hx, hE.ev hy, this], .inl rfl⟩) hJ
theorem JJ.mapUpdate {T e : TypeId} (hT : smapT c.P T = some e) {x y u : Operand} {b : Nat} {k : ByteArray} {m : SMap} {v : Value} (j : Nat) {L' : List HP} (rg : Reg c.N ops) (ho : ops[i]? = some ⟨none, .mapUpdate T x y u, ty, pos, aft, gd⟩) (hg : wants ops E gd = some true)
    (hx : evE E x = some (.map (some b))) (hy : evE E y = some (.string k)) (hu : evE E u = some v) (hj : L[j]? = some (mapR b m)) (hL' : L.set j (mapR b (m.set k v)) = L') (hJ : JJ c (.inRegion ops is :: K) E D I L') : JJ c (.inRegion ops (i :: is) :: K) E D I L := by
  refine JJ.op (X := Unit) (I' := fun _ => I) (L' := fun _ => L') rg ho hg (fun _ e => by cases e) (fun _ => True) (fun _ => undef) (fun a w h kk hE hS hR => ?_) fun _ _ => hJ
  have hjl : j < L.length := (List.getElem?_eq_some_iff.1 hj).1
  obtain ⟨h1, h2, l1, l2, d, ⟨es, clock, hb, he⟩, s2⟩ := hS.pull j hj
  obtain ⟨es', clock', hr, he'⟩ := mapUpdate_run (x := v) (k := k) hT (hR.hon.mono l1 _ _ hb) he
  obtain ⟨hb2, h3, h4, a3, a4, a5, a6, a7⟩ := Sat.write (b := b) (o := .map es clock) (h := h) (L := L.eraseIdx j) ⟨h1, h2, l1, l2, d, hb, s2⟩ (.map es' clock')
  have hput : Sat (L.set j (mapR b (m.set k v))) (h.set b (.map es' clock')) := Sat.put j hjl ⟨h3, h4, a3, a4, a5, ⟨es', clock', a6, he'⟩, a7⟩
  exact ⟨(), .skip, _, _, trivial, by simp [execOp, hE.ev hx, hE.ev hy, hE.ev hu, hr], .inr ⟨rfl, rfl⟩, hL' ▸ hput, hR.obj hb2, .refl _, ⟨rfl, rfl, rfl⟩⟩
end
end Go.Proofs.Ytlcdafeoionnhaa
