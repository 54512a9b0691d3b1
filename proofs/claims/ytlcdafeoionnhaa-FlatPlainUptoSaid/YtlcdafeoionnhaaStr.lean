/- The judgement's rules for strings, and for maps that come and go as they are. -/
import Derived.Test.YtlcdafeoionnhaaDraw
import Derived.Lib.Strings
namespace Go.Proofs.Ytlcdafeoionnhaa
open Go
set_option linter.unusedSimpArgs false
set_option linter.unusedVariables false
theorem Rel.obj {I h k : Hp} {w : World} (hR : Rel I h k w) {b : Nat} {o o' : Obj} (hb : h b = some o) : Rel I (h.set b o') k { w with heap := w.heap.setIfInBounds b o' } := by
  have hlt := hR.hon.lt hb
  exact hR.write (w' := { w with heap := w.heap.setIfInBounds b o' }) hb (by simp) (fun n hn => by simp [Array.getElem?_setIfInBounds_ne (Ne.symm hn)]) (by simp [hlt])
theorem run_getObj_at {P : Program} {w : World} {b : Nat} {o : Obj} (h : w.heap[b]? = some o) (hc : ∀ c e f, o ≠ .cells c e f) : (getObj b).run P w = .ok o w := by
  unfold getObj
  simp only [Sem.run, h]
theorem run_setObj_at {P : Program} {w : World} {b : Nat} {o o' : Obj} (h : w.heap[b]? = some o) (hc : ∀ c e f, o ≠ .cells c e f) : (setObj b o').run P w = .ok () { w with heap := w.heap.setIfInBounds b o' } := by
  unfold setObj
  simp only [Sem.run, h]
/-- A contract of a function that answers a bool, and leaves memory alone but for what it makes. -/
abbrev RB (b : Bool) : Value → Hp → HP := Ret (X := Unit) (fun _ _ => True) (fun _ => .bool b) fun _ => []
abbrev RI (z : Int) : Value → Hp → HP := Ret (X := Unit) (fun _ _ => True) (fun _ => .int .i64 z) fun _ => []
theorem Fn.same {P : Program} {f : FuncId} {args : Array Value} {I : Hp} {v : Value} (h : ∀ w, I.on w → Calls P f args w fun e w' => e = .returned v ∧ w' = w) : Fn P f args I [] (Ret (X := Unit) (fun _ _ => True) (fun _ => v) fun _ => []) := by
  intro w hh k hS hR
  refine (h w hR.Ion).mono ?_
  rintro e w' ⟨rfl, rfl⟩
  exact ⟨v, rfl, I, hh, .refl _, hR, .refl _, (), trivial, rfl, trivial⟩
/-- The library's variable lies in what does not change. -/
def GL (g : Nat) (I : Hp) : Prop := ∃ m, Row I ⟨g, 0, none⟩ [.int .i64 m]
theorem GL.mono {g : Nat} {I I' : Hp} (h : GL g I) (l : I.le I') : GL g I' := let ⟨m, r⟩ := h; ⟨m, r.mono l⟩
theorem toL (s : ByteArray) : s.toList = s.data.toList := ByteArray.toList_eq s
theorem conv_id {k : IntKind} {x : Int} (h0 : 0 ≤ x) (h1 : x ≤ 127) : k.wrap x = x := by
  unfold IntKind.wrap; cases k <;> simp [IntKind.signed, IntKind.bits] <;> omega
theorem conv_u8_i32 (b : UInt8) : IntKind.i32.wrap (b.toNat : Int) = b.toNat := by
  have := b.toNat_lt
  unfold IntKind.wrap; simp [IntKind.signed, IntKind.bits]; omega
theorem decode_lo (s : ByteArray) (i : Nat) (h : (s.get! i).toNat < 128) : Utf8.decode s i = ((s.get! i).toNat, 1) := by
  unfold Utf8.decode
  simp [h]
theorem decode_hi (s : ByteArray) (i : Nat) (h : ¬ (s.get! i).toNat < 128) : 128 ≤ (Utf8.decode s i).1 := by
  unfold Utf8.decode
  simp only [Nat.add_zero]
  rw [if_neg h]
  simp only [Utf8.runeError]
  repeat' split
  all_goals first | decide | (rename_i hh; dsimp only; omega) | (rename_i hh; rw [Bool.and_eq_true, decide_eq_true_eq] at hh; dsimp only; omega)
section
variable {c : Cx} {K : List Item} {E : List (Nat × Value)} {D : List Deferred} {I : Hp} {L : List HP} {ops : Array Oper} {i : Nat} {is : List Nat}
variable {dst : Option Nat} {ty : TypeId} {pos : String} {aft : Array Edge} {gd : Option (Nat × Bool)}
theorem JJ.indexStr {T : TypeId} {x y : Operand} {s : ByteArray} {k : IntKind} {ix : Int} {b : UInt8} (hT : isStringT c.P T = true) (rg : Reg c.N ops) (ho : ops[i]? = some ⟨dst, .index T x y, ty, pos, aft, gd⟩) (hg : wants ops E gd = some true) (hx : evE E x = some (.string s)) (hy : evE E y = some (.int k ix)) (h0 : 0 ≤ ix) (hb : s.data.toList[ix.toNat]? = some b)
    (hJ : JJ c (.inRegion ops is :: K) (putE dst (.int .u8 b.toNat) E) D I L) : JJ c (.inRegion ops (i :: is) :: K) E D I L :=
  JJ.op0 rg ho hg (fun _ e => by cases e) (fun A w h kk hE _ _ => by
    refine ⟨.value (.int .u8 b.toNat), ?_, .inl rfl⟩
    unfold isStringT at hT
    split at hT
    · rename_i hu
      have hs : s[ix.toNat]? = some b := by
        have hlt := (List.getElem?_eq_some_iff.1 hb).1
        have hlt' : ix.toNat < s.size := by rw [Array.length_toList] at hlt; exact hlt
        rw [getElem?_pos s ix.toNat hlt']
        have := (List.getElem?_eq_some_iff.1 hb).2
        rw [← this]; rfl
      simp [execOp, hE.ev hx, hE.ev hy, Instr.index, asIntOf, underlying, hu, h0, hs]
    · cases hT) hJ
def convT (P : Program) (S T : TypeId) : Option IntKind :=
  match P.underlying S, P.underlying T with
  | some (.int _), some (.int k) => some k
  | _, _ => none
theorem JJ.convInt {S T : TypeId} {x : Operand} {k k' : IntKind} {n z : Int} (hT : convT c.P S T = some k') (rg : Reg c.N ops) (ho : ops[i]? = some ⟨dst, .convert S T x, ty, pos, aft, gd⟩) (hg : wants ops E gd = some true) (hx : evE E x = some (.int k n)) (hz : k'.wrap n = z)
    (hJ : JJ c (.inRegion ops is :: K) (putE dst (.int k' z) E) D I L) : JJ c (.inRegion ops (i :: is) :: K) E D I L :=
  JJ.op0 rg ho hg (fun _ e => by cases e) (fun A w h kk hE _ _ => by
    refine ⟨.value (.int k' z), ?_, .inl rfl⟩
    unfold convT at hT
    split at hT
    · rename_i k1 k2 h1 h2
      cases hT
      simp [execOp, hE.ev hx, convert, underlying, h1, h2, Conv.intToInt, hz]
    · cases hT) hJ
theorem JJ.concat {T T' : TypeId} {x y : Operand} {a b : ByteArray} (rg : Reg c.N ops) (ho : ops[i]? = some ⟨dst, .binOp .add T x y T', ty, pos, aft, gd⟩) (hg : wants ops E gd = some true) (hx : evE E x = some (.string a)) (hy : evE E y = some (.string b)) (hl : a.size + b.size ≤ 4611686018427387904)
    (hJ : JJ c (.inRegion ops is :: K) (putE dst (.string (a ++ b)) E) D I L) : JJ c (.inRegion ops (i :: is) :: K) E D I L :=
  JJ.op0 rg ho hg (fun _ e => by cases e) (fun A w h kk hE _ _ => by
    refine ⟨.value (.string (a ++ b)), ?_, .inl rfl⟩
    have h1 : ¬ (((a.size + b.size : Nat) : Int) > IntKind.i64.max) := by
      have : IntKind.i64.max = 9223372036854775807 := by decide
      rw [this]; omega
    simp only [execOp, hE.ev hx, hE.ev hy, eqGuard, binOp, Op.stringOp]
    rw [if_neg h1]; rfl) hJ
theorem JJ.sliceStr {T : TypeId} {x : Operand} {lo hi : Option Operand} {s : ByteArray} {l h : Nat} (hT : isStringT c.P T = true) (rg : Reg c.N ops) (ho : ops[i]? = some ⟨dst, .slice T x lo hi none, ty, pos, aft, gd⟩) (hg : wants ops E gd = some true) (hx : evE E x = some (.string s))
    (hlo : match lo with | none => l = 0 | some o => evE E o = some (.int .i64 l)) (hhi : match hi with | none => h = s.size | some o => evE E o = some (.int .i64 h)) (h1 : l ≤ h) (h2 : h ≤ s.size)
    (hJ : JJ c (.inRegion ops is :: K) (putE dst (.string (s.extract l h)) E) D I L) : JJ c (.inRegion ops (i :: is) :: K) E D I L :=
  JJ.op0 rg ho hg (fun _ e => by cases e) (fun A w hh kk hE _ _ => by
    refine ⟨.value (.string (s.extract l h)), ?_, .inl rfl⟩
    unfold isStringT at hT
    split at hT
    · rename_i hu
      have e1 : ((h : Nat) : Int) ≤ (s.size : Int) := by omega
      have e2 : ((l : Nat) : Int) ≤ (h : Int) := by omega
      have e3 : (0 : Int) ≤ (h : Int) := by omega
      have e4 : (0 : Int) ≤ (l : Int) := by omega
      cases lo <;> cases hi <;> dsimp only at hlo hhi
      · subst hlo; subst hhi
        simp [execOp, hE.ev hx, Instr.sliceAt, Instr.slice, underlying, hu, Instr.sliceBounds]
      · subst hlo
        simp [execOp, hE.ev hx, hE.ev hhi, Instr.sliceAt, Instr.slice, underlying, hu, Instr.sliceBounds, Instr.sliceBound, asIntOf, h2]
      · subst hhi
        simp [execOp, hE.ev hx, hE.ev hlo, Instr.sliceAt, Instr.slice, underlying, hu, Instr.sliceBounds, Instr.sliceBound, asIntOf, h1]
      · simp [execOp, hE.ev hx, hE.ev hlo, hE.ev hhi, Instr.sliceAt, Instr.slice, underlying, hu, Instr.sliceBounds, Instr.sliceBound, asIntOf, h1, h2]
    · cases hT) hJ
theorem JJ.rangeStr {T : TypeId} {x : Operand} {s : ByteArray} (hT : isStringT c.P T = true) (rg : Reg c.N ops) (ho : ops[i]? = some ⟨dst, .range T x, ty, pos, aft, gd⟩) (hg : wants ops E gd = some true) (hx : evE E x = some (.string s))
    (hJ : ∀ b : Nat, JJ c (.inRegion ops is :: K) (putE dst (.pointer (some ⟨b, 0, none⟩)) E) D I (blk b (.stringIter s 0) :: L)) : JJ c (.inRegion ops (i :: is) :: K) E D I L :=
  JJ.op (X := Nat) (I' := fun _ => I) (L' := fun b => blk b (.stringIter s 0) :: L) rg ho hg (fun _ e => by cases e) (fun _ => True) (fun b => .pointer (some ⟨b, 0, none⟩))
    (fun a w h k hE hS hR => by
      unfold isStringT at hT
      split at hT
      · rename_i hu
        exact ⟨w.heap.size, _, _, h.set w.heap.size (.stringIter s 0), trivial, by simp [execOp, hE.ev hx, Instr.range, underlying, hu], .inl rfl, hS.new _ (hR.hon.fresh (Nat.le_refl _)), hR.new _, .refl _, ⟨rfl, rfl, rfl⟩⟩
      · cases hT) fun b _ => hJ b
theorem JJ.nextStr {x : Operand} {s : ByteArray} {b p : Nat} (j : Nat) {L' : List HP} (rg : Reg c.N ops) (ho : ops[i]? = some ⟨dst, .next x true, ty, pos, aft, gd⟩) (hg : wants ops E gd = some true) (hx : evE E x = some (.pointer (some ⟨b, 0, none⟩))) (hj : L[j]? = some (blk b (.stringIter s p))) (hp : p < s.size)
    (hL' : L.set j (blk b (.stringIter s (p + (Utf8.decode s p).2))) = L') (hJ : JJ c (.inRegion ops is :: K) (putE dst (.tuple #[.bool true, .int .i64 p, .int .i32 (Utf8.decode s p).1]) E) D I L') : JJ c (.inRegion ops (i :: is) :: K) E D I L := by
  refine JJ.op (X := Unit) (I' := fun _ => I) (L' := fun _ => L') rg ho hg (fun _ e => by cases e) (fun _ => True) (fun _ => .tuple #[.bool true, .int .i64 p, .int .i32 (Utf8.decode s p).1]) (fun a w h k hE hS hR => ?_) fun _ _ => hJ
  have hjl : j < L.length := (List.getElem?_eq_some_iff.1 hj).1
  obtain ⟨hb, hS'⟩ := (hS.pull j hj).write (.stringIter s (p + (Utf8.decode s p).2))
  have hw := hR.hon _ _ hb
  refine ⟨(), .value _, _, _, trivial, ?_, .inl rfl, hL' ▸ Sat.put j hjl hS', hR.obj hb, .refl _, ⟨rfl, rfl, rfl⟩⟩
  simp [execOp, hE.ev hx, Instr.next, run_getObj_at hw (by intros; simp), hp, run_setObj_at hw (by intros; simp), goInt]
theorem JJ.nextEnd {x : Operand} {s : ByteArray} {b p : Nat} (j : Nat) (rg : Reg c.N ops) (ho : ops[i]? = some ⟨dst, .next x true, ty, pos, aft, gd⟩) (hg : wants ops E gd = some true) (hx : evE E x = some (.pointer (some ⟨b, 0, none⟩))) (hj : L[j]? = some (blk b (.stringIter s p))) (hp : ¬ p < s.size)
    (hJ : JJ c (.inRegion ops is :: K) (putE dst (.tuple #[.bool false]) E) D I L) : JJ c (.inRegion ops (i :: is) :: K) E D I L :=
  JJ.op0 rg ho hg (fun _ e => by cases e) (fun a w h k hE hS hR => by
    obtain ⟨h1, h2, l1, _, _, hb, _⟩ := hS.pull j hj
    have hw := hR.hon _ _ (l1 _ _ hb)
    exact ⟨.value _, by simp [execOp, hE.ev hx, Instr.next, run_getObj_at hw (by intros; simp), hp], .inl rfl⟩) hJ
end
end Go.Proofs.Ytlcdafeoionnhaa
