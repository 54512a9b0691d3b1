/- What package flat computes, on scripts as data. -/
import Derived.Test.YtlcdafeoionnhaaTree
import Derived.Test.YtlcdafeoionnhaaVc
namespace Go.Proofs.Ytlcdafeoionnhaa
open Go Vc
set_option linter.unusedSimpArgs false
set_option linter.unusedVariables false
abbrev KN := List (ByteArray × ByteArray)
def findK : KN → ByteArray → ByteArray × Bool
  | [], s => (s, false)
  | (o, f) :: r, s => bif decide (o.data.toList = s.data.toList) then (f, true) else findK r s
mutual
def Ex.ren (kn : KN) : Ex → Ex
  | .mk op n s x => .mk op n (bif decide (op = 4) then (findK kn s).1 else s) (Ex.renl kn x)
def Ex.renl (kn : KN) : List Ex → List Ex
  | [] => []
  | a :: l => a.ren kn :: Ex.renl kn l
end
theorem Ex.renl_map (kn : KN) : ∀ l : List Ex, Ex.renl kn l = l.map (Ex.ren kn)
  | [] => rfl
  | a :: l => by simp only [Ex.renl, List.map_cons, Ex.renl_map kn l]
theorem Ex.ren_eq (kn : KN) (x : Ex) : x.ren kn = .mk x.op x.n (bif decide (x.op = 4) then (findK kn x.s).1 else x.s) (x.x.map (Ex.ren kn)) := by
  cases x; simp only [Ex.ren, Ex.renl_map]; rfl
mutual
theorem Ex.ren_sz (kn : KN) : ∀ x : Ex, (x.ren kn).sz = x.sz
  | .mk op n s x => by simp only [Ex.ren, Ex.sz, Ex.renl_sz kn x]
theorem Ex.renl_sz (kn : KN) : ∀ l : List Ex, Ex.szl (Ex.renl kn l) = Ex.szl l
  | [] => rfl
  | a :: l => by simp only [Ex.renl, Ex.szl, Ex.ren_sz kn a, Ex.renl_sz kn l]
end
def letK (kn : KN) (s : ByteArray) (vars : Int) : ByteArray × KN × Int :=
  bif (findK kn s).2 then ((findK kn s).1, kn, vars) else (⟨#[118]⟩ ++ digS vars, (s, ⟨#[118]⟩ ++ digS vars) :: kn, IntKind.i64.wrap (vars + 1))
structure WS where
  left : Int
  vars : Int
def WS.dec (w : WS) : WS := ⟨IntKind.i64.wrap (w.left - 1), w.vars⟩
def ifTrue (b : List St) : St := .mk 13 ⟨#[]⟩ 0 [.mk 3 1 ⟨#[]⟩ []] b [] false
def oftenF (Fb : WS → List St × WS) : Nat → List St → WS → List St × WS
  | 0, out, w => (out, w)
  | n + 1, out, w => bif decide (w.dec.left < 0) then (out, w.dec) else oftenF Fb n (out ++ [ifTrue (Fb w.dec).1]) (Fb w.dec).2
/-- A statement that is neither a loop nor a call, once its own part is paid for. -/
def oneF (rec : KN → WS → List St → List St × WS) (s : St) (w : WS) (kn : KN) : St × WS × KN :=
  (fun (q : ByteArray × KN × Int) => (fun (b : List St × WS) => (fun (f : List St × WS) => (St.mk s.op q.1 s.n (s.e.map (Ex.ren kn)) b.1 f.1 s.commit, f.2, q.2.1)) (rec q.2.1 b.2 s.els)) (rec q.2.1 ⟨w.left, q.2.2⟩ s.body))
    (bif decide (s.op = 12) then letK kn s.s w.vars else (s.s, kn, w.vars))
def blkF (rec : KN → WS → List St → List St × WS) (pf : ByteArray → List St) : List St → List St → WS → KN → List St × WS
  | [], out, w, kn => (out, w)
  | s :: l, out, w, kn =>
    bif decide (s.op = 14) then blkF rec pf l (out ++ (oftenF (fun w => rec kn w s.body) s.n.toNat [] w).1) (oftenF (fun w => rec kn w s.body) s.n.toNat [] w).2 kn
    else bif decide (s.op = 15) then blkF rec pf l (out ++ (oftenF (fun w => rec [] w (pf s.s)) 1 [] w).1) (oftenF (fun w => rec [] w (pf s.s)) 1 [] w).2 kn
    else bif decide (w.dec.left < 0) then (out, w.dec)
    else blkF rec pf l (out ++ [(oneF rec s w.dec kn).1]) (oneF rec s w.dec kn).2.1 (oneF rec s w.dec kn).2.2
def F_blk (pf : ByteArray → List St) : Nat → KN → WS → List St → List St × WS
  | 0, kn, w, l => blkF (fun _ w _ => ([], w)) pf l [] w kn
  | f + 1, kn, w, l => blkF (F_blk pf f) pf l [] w kn
theorem wrap_rng (x : Int) : -9223372036854775808 ≤ IntKind.i64.wrap x ∧ IntKind.i64.wrap x ≤ 9223372036854775807 := by
  unfold IntKind.wrap; simp [IntKind.signed, IntKind.bits]; omega
/-- The numbers within bounds. -/
structure WS.ok (w : WS) (f : Nat) : Prop where
  lo : -17592186044416 ≤ w.left
  hi : w.left ≤ f
  v0 : -9223372036854775808 ≤ w.vars
  v1 : w.vars ≤ 9223372036854775807
/-- The same, a little wider. -/
structure WS.ok2 (w : WS) (f : Nat) : Prop where
  lo : -35184372088832 ≤ w.left
  hi : w.left ≤ f
  v0 : -9223372036854775808 ≤ w.vars
  v1 : w.vars ≤ 9223372036854775807
theorem WS.dec_left {w : WS} {f : Nat} (h : w.ok2 f) (hf : f ≤ 256) : w.dec.left = w.left - 1 := by
  have := h.lo; have := h.hi
  exact wrap_id (by omega) (by omega)
/-- What a block's run does to the numbers, and how much comes out. C: what one statement may have. -/
structure Fit (C f n : Nat) (w : WS) (out : List St) (w' : WS) : Prop where
  le : w'.left ≤ w.left
  neg : w.left ≤ 0 → w.left - n ≤ w'.left
  pos : 1 ≤ w.left → -(((f : Int) + 1) * 17179869184) ≤ w'.left
  sz : St.szl out + C * w'.left.toNat ≤ C * w.left.toNat
  v0 : -9223372036854775808 ≤ w'.vars
  v1 : w'.vars ≤ 9223372036854775807
theorem St.szl_append : ∀ a b : List St, St.szl (a ++ b) = St.szl a + St.szl b
  | [], b => by simp [St.szl]
  | x :: a, b => by simp only [List.cons_append, St.szl, St.szl_append a b]; omega
theorem letK_v {kn : KN} {s : ByteArray} {v : Int} (h0 : -9223372036854775808 ≤ v) (h1 : v ≤ 9223372036854775807) : -9223372036854775808 ≤ (letK kn s v).2.2 ∧ (letK kn s v).2.2 ≤ 9223372036854775807 := by
  unfold letK
  cases (findK kn s).2
  · exact wrap_rng _
  · exact ⟨h0, h1⟩
theorem often_len (Fb : WS → List St × WS) : ∀ (n : Nat) (out : List St) (w : WS), (oftenF Fb n out w).1.length ≤ out.length + n
  | 0, out, w => by simp [oftenF]
  | n + 1, out, w => by
    unfold oftenF
    cases decide (w.dec.left < 0)
    · have := often_len Fb n (out ++ [ifTrue (Fb w.dec).1]) (Fb w.dec).2
      simp only [cond_false]; rw [List.length_append] at this; simp at this; omega
    · simp
/-- Loops, and calls: what they do to the numbers. -/
theorem often_fit {C f : Nat} {N : Nat} {M : Int} (hC : 2 ≤ C) (hf : f + 1 ≤ 256) (hN : N ≤ 4294967296) {Fb : WS → List St × WS} (hb : ∀ w : WS, w.ok f → 0 ≤ w.left → w.left < M → Fit C f N w (Fb w).1 (Fb w).2) :
    ∀ (n : Nat) (out : List St) (w : WS), w.ok2 (f + 1) → w.left ≤ M → (oftenF Fb n out w).2.left ≤ w.left ∧ (w.left ≤ 0 → w.left - 1 ≤ (oftenF Fb n out w).2.left) ∧ (1 ≤ w.left → -(((f : Int) + 1) * 17179869184) - 1 ≤ (oftenF Fb n out w).2.left) ∧
      St.szl (oftenF Fb n out w).1 + C * (oftenF Fb n out w).2.left.toNat ≤ St.szl out + C * w.left.toNat ∧ -9223372036854775808 ≤ (oftenF Fb n out w).2.vars ∧ (oftenF Fb n out w).2.vars ≤ 9223372036854775807
  | 0, out, w, hw, _ => by
    unfold oftenF
    exact ⟨Int.le_refl _, fun _ => by dsimp only; omega, fun _ => by dsimp only; omega, Nat.le_refl _, hw.v0, hw.v1⟩
  | n + 1, out, w, hw, hM => by
    have hd := w.dec_left hw hf
    unfold oftenF
    by_cases h0 : w.dec.left < 0
    · rw [decide_eq_true h0]
      simp only [cond_true]
      refine ⟨by omega, fun _ => by omega, fun _ => by omega, ?_, hw.v0, hw.v1⟩
      have e1 : w.dec.left.toNat = 0 := by omega
      rw [e1]; simp
    · rw [decide_eq_false h0]
      simp only [cond_false]
      have hok : w.dec.ok f := ⟨by have := hw.lo; omega, by have := hw.hi; omega, hw.v0, hw.v1⟩
      have hb1 := hb w.dec hok (by omega) (by omega)
      have hlow : -17592186044416 ≤ (Fb w.dec).2.left := by
        by_cases h1 : w.dec.left ≤ 0
        · have := hb1.neg h1; omega
        · have := hb1.pos (by omega); omega
      have hok2 : (Fb w.dec).2.ok2 (f + 1) := ⟨by omega, by have := hb1.le; have := hw.hi; omega, hb1.v0, hb1.v1⟩
      obtain ⟨i1, i2, i3, i4, i5, i6⟩ := often_fit hC hf hN hb n (out ++ [ifTrue (Fb w.dec).1]) (Fb w.dec).2 hok2 (by have := hb1.le; omega)
      refine ⟨by have := hb1.le; omega, fun h => by omega, fun h => ?_, ?_, i5, i6⟩
      · by_cases h2 : 1 ≤ (Fb w.dec).2.left
        · exact i3 h2
        · have := i2 (by omega)
          by_cases h1 : w.dec.left ≤ 0
          · have := hb1.neg h1; omega
          · have := hb1.pos (by omega); omega
      · rw [St.szl_append] at i4
        have e1 : St.szl [ifTrue (Fb w.dec).1] = St.szl (Fb w.dec).1 + 2 := by simp [ifTrue, St.szl, St.sz, Ex.szl, Ex.sz]; omega
        have e2 : w.left.toNat = w.dec.left.toNat + 1 := by omega
        have e3 := hb1.sz
        rw [e1] at i4
        rw [e2, Nat.mul_add]
        omega
theorem one_fit {C f : Nat} {rec : KN → WS → List St → List St × WS} (hC1 : C ≤ 4294967296) (hr : ∀ kn w l, w.ok f → St.szl l + 2 ≤ C → Fit C f C w (rec kn w l).1 (rec kn w l).2) {s : St} {kn : KN} {w : WS} (hf : f + 1 ≤ 256) (hw : w.ok f) (h0 : 0 ≤ w.left) (hb : St.szl s.body + 2 ≤ C) (he : St.szl s.els + 2 ≤ C) (hC : Ex.szl s.e + 1 ≤ C) :
    (oneF rec s w kn).2.1.left ≤ w.left ∧ -(((f : Int) + 1) * 17179869184) - 4294967296 ≤ (oneF rec s w kn).2.1.left ∧ (oneF rec s w kn).1.sz + C * (oneF rec s w kn).2.1.left.toNat ≤ C * w.left.toNat + C ∧ -9223372036854775808 ≤ (oneF rec s w kn).2.1.vars ∧ (oneF rec s w kn).2.1.vars ≤ 9223372036854775807 := by
  unfold oneF
  generalize hq : (bif decide (s.op = 12) then letK kn s.s w.vars else (s.s, kn, w.vars)) = q
  have hv : -9223372036854775808 ≤ q.2.2 ∧ q.2.2 ≤ 9223372036854775807 := by
    rw [← hq]
    cases decide (s.op = 12)
    · exact ⟨hw.v0, hw.v1⟩
    · exact letK_v hw.v0 hw.v1
  dsimp only
  have ok1 : WS.ok ⟨w.left, q.2.2⟩ f := ⟨hw.lo, hw.hi, hv.1, hv.2⟩
  have b1 := hr q.2.1 ⟨w.left, q.2.2⟩ s.body ok1 hb
  generalize rec q.2.1 ⟨w.left, q.2.2⟩ s.body = b at b1 ⊢
  have hl1 : w.left - C ≤ b.2.left ∨ -(((f : Int) + 1) * 17179869184) ≤ b.2.left := by
    by_cases h : w.left ≤ 0
    · exact .inl (b1.neg h)
    · exact .inr (b1.pos (by show 1 ≤ w.left; omega))
  have hle1 : b.2.left ≤ w.left := b1.le
  have hbs : St.szl b.1 + C * b.2.left.toNat ≤ C * w.left.toNat := b1.sz
  have ok2 : b.2.ok f := ⟨by omega, by have := hw.hi; omega, b1.v0, b1.v1⟩
  have b2 := hr q.2.1 b.2 s.els ok2 he
  generalize rec q.2.1 b.2 s.els = g at b2 ⊢
  have hle2 := b2.le
  have hl2 : -(((f : Int) + 1) * 17179869184) - 4294967296 ≤ g.2.left := by
    by_cases h : b.2.left ≤ 0
    · have := b2.neg h; omega
    · have := b2.pos (by omega); omega
  refine ⟨by show g.2.left ≤ w.left; omega, hl2, ?_, b2.v0, b2.v1⟩
  have hs2 := b2.sz
  show (St.mk s.op q.1 s.n (s.e.map (Ex.ren kn)) b.1 g.1 s.commit).sz + C * g.2.left.toNat ≤ _
  simp only [St.sz]
  rw [← Ex.renl_map, Ex.renl_sz]
  omega
theorem blk_fit {C f : Nat} {M : Int} {rec : KN → WS → List St → List St × WS} {pf : ByteArray → List St} (hC1 : C ≤ 4294967296) (hf : f + 1 ≤ 256) (hp : ∀ s, St.szl (pf s) + 2 ≤ C) (hr : 1 ≤ M → ∀ kn w l, w.ok f → St.szl l + 2 ≤ C → Fit C f C w (rec kn w l).1 (rec kn w l).2) :
    ∀ (l out : List St) (w : WS) (kn : KN), w.ok2 (f + 1) → w.left ≤ M → -17600776036352 + (l.length : Int) ≤ w.left → St.szl l + 2 ≤ C → (blkF rec pf l out w kn).2.left ≤ w.left ∧ (w.left ≤ 0 → w.left - l.length ≤ (blkF rec pf l out w kn).2.left) ∧ (1 ≤ w.left → -(((f : Int) + 1) * 17179869184) - 4294967297 - l.length ≤ (blkF rec pf l out w kn).2.left) ∧
      St.szl (blkF rec pf l out w kn).1 + C * (blkF rec pf l out w kn).2.left.toNat ≤ St.szl out + C * w.left.toNat ∧ -9223372036854775808 ≤ (blkF rec pf l out w kn).2.vars ∧ (blkF rec pf l out w kn).2.vars ≤ 9223372036854775807
  | [], out, w, kn, hw, _, _, _ => by
    simp only [blkF]
    exact ⟨Int.le_refl _, fun _ => by omega, fun _ => by simp only [List.length_nil]; omega, Nat.le_refl _, hw.v0, hw.v1⟩
  | s :: l, out, w, kn, hw, hM, hlo, hl => by
    rw [List.length_cons] at hlo
    have hsz : s.sz = Ex.szl s.e + St.szl s.body + St.szl s.els + 1 := s.sz_eq
    have hl' : s.sz + St.szl l + 2 ≤ C := hl
    have hll := St.szl_len l
    have hd := w.dec_left hw hf
    have go : ∀ (r : List St × WS) (kn' : KN), r.2.left ≤ w.left → (w.left ≤ 0 → w.left - 1 ≤ r.2.left) → (1 ≤ w.left → -(((f : Int) + 1) * 17179869184) - 4294967297 ≤ r.2.left) → St.szl r.1 + C * r.2.left.toNat ≤ C * w.left.toNat → -9223372036854775808 ≤ r.2.vars → r.2.vars ≤ 9223372036854775807 →
        (blkF rec pf l (out ++ r.1) r.2 kn').2.left ≤ w.left ∧ (w.left ≤ 0 → w.left - (s :: l).length ≤ (blkF rec pf l (out ++ r.1) r.2 kn').2.left) ∧ (1 ≤ w.left → -(((f : Int) + 1) * 17179869184) - 4294967297 - (s :: l).length ≤ (blkF rec pf l (out ++ r.1) r.2 kn').2.left) ∧
        St.szl (blkF rec pf l (out ++ r.1) r.2 kn').1 + C * (blkF rec pf l (out ++ r.1) r.2 kn').2.left.toNat ≤ St.szl out + C * w.left.toNat ∧ -9223372036854775808 ≤ (blkF rec pf l (out ++ r.1) r.2 kn').2.vars ∧ (blkF rec pf l (out ++ r.1) r.2 kn').2.vars ≤ 9223372036854775807 := by
      intro r kn' h1 h2 h3 h4 h5 h6
      have hhi := hw.hi
      have hlo2 : -17600776036352 + (l.length : Int) ≤ r.2.left := by
        by_cases h : w.left ≤ 0
        · have := h2 h; omega
        · have := h3 (by omega); omega
      have ok2 : r.2.ok2 (f + 1) := ⟨by omega, by omega, h5, h6⟩
      obtain ⟨i1, i2, i3, i4, i5, i6⟩ := blk_fit hC1 hf hp hr l (out ++ r.1) r.2 kn' ok2 (by omega) hlo2 (by omega)
      rw [St.szl_append] at i4
      simp only [List.length_cons]
      refine ⟨by omega, fun h => ?_, fun h => ?_, by omega, i5, i6⟩
      · have := h2 h; have := i2 (by omega); omega
      · have := h3 h
        by_cases h9 : 1 ≤ r.2.left
        · have := i3 h9; omega
        · have := i2 (by omega); omega
    simp only [blkF]
    by_cases c1 : s.op = 14
    · rw [decide_eq_true c1]
      simp only [cond_true]
      obtain ⟨a1, a2, a3, a4, a5, a6⟩ := often_fit (C := C) (by omega) hf hC1 (Fb := fun w => rec kn w s.body) (M := M) (fun w hw h0 hm => hr (by omega) kn w s.body hw (by omega)) s.n.toNat [] w hw hM
      exact go _ kn a1 a2 (fun h => by have := a3 h; omega) (by simpa [St.szl] using a4) a5 a6
    · rw [decide_eq_false c1]
      simp only [cond_false]
      by_cases c2 : s.op = 15
      · rw [decide_eq_true c2]
        simp only [cond_true]
        obtain ⟨a1, a2, a3, a4, a5, a6⟩ := often_fit (C := C) (by omega) hf hC1 (Fb := fun w => rec [] w (pf s.s)) (M := M) (fun w hw h0 hm => hr (by omega) [] w (pf s.s) hw (hp s.s)) 1 [] w hw hM
        exact go _ kn a1 a2 (fun h => by have := a3 h; omega) (by simpa [St.szl] using a4) a5 a6
      · rw [decide_eq_false c2]
        simp only [cond_false]
        by_cases h0 : w.dec.left < 0
        · rw [decide_eq_true h0]
          simp only [cond_true, List.length_cons]
          refine ⟨by omega, fun _ => by omega, fun _ => by omega, ?_, hw.v0, hw.v1⟩
          have e1 : w.dec.left.toNat = 0 := by omega
          rw [e1]; simp
        · rw [decide_eq_false h0]
          simp only [cond_false]
          have hok : w.dec.ok f := ⟨by omega, by have := hw.hi; omega, hw.v0, hw.v1⟩
          obtain ⟨o1, o2, o3, o4, o5⟩ := one_fit hC1 (hr (by omega)) (kn := kn) hf hok (by omega) (s := s) (by omega) (by omega) (by omega)
          refine go ([(oneF rec s w.dec kn).1], (oneF rec s w.dec kn).2.1) _ (by dsimp only; omega) (fun h => by omega) (fun h => by dsimp only; omega) ?_ o4 o5
          simp only [St.szl]
          have e2 : w.left.toNat = w.dec.left.toNat + 1 := by omega
          rw [e2, Nat.mul_add]; omega
theorem F_blk_fit {C : Nat} {pf : ByteArray → List St} (hC1 : C ≤ 4294967296) (hp : ∀ s, St.szl (pf s) + 2 ≤ C) : ∀ (f : Nat), f ≤ 256 → ∀ (kn : KN) (w : WS) (l : List St), w.ok f → St.szl l + 2 ≤ C → Fit C f C w (F_blk pf f kn w l).1 (F_blk pf f kn w l).2 := by
  intro f
  induction f with
  | zero =>
    intro _ kn w l hw hl
    have hll := St.szl_len l
    have hwl := hw.hi
    have hwlo := hw.lo
    obtain ⟨i1, i2, i3, i4, i5, i6⟩ := blk_fit (f := 0) (M := w.left) (rec := fun _ w _ => ([], w)) hC1 (by decide) hp (fun h => by omega) l [] w kn ⟨by omega, by omega, hw.v0, hw.v1⟩ (Int.le_refl _) (by omega) hl
    exact ⟨i1, fun h => by have := i2 h; show w.left - C ≤ (blkF _ pf l [] w kn).2.left; omega, fun h => by omega, by rw [St.szl, Nat.zero_add] at i4; exact i4, i5, i6⟩
  | succ f ih =>
    intro hf kn w l hw hl
    have hll := St.szl_len l
    have hwlo := hw.lo
    obtain ⟨i1, i2, i3, i4, i5, i6⟩ := blk_fit (f := f) (M := w.left) (rec := F_blk pf f) hC1 hf hp (fun _ kn w l hw hl => ih (by omega) kn w l hw hl) l [] w kn ⟨by omega, hw.hi, hw.v0, hw.v1⟩ (Int.le_refl _) (by omega) hl
    exact ⟨i1, fun h => by have := i2 h; show w.left - C ≤ (blkF _ pf l [] w kn).2.left; omega, fun h => by have := i3 h; show _ ≤ (blkF _ pf l [] w kn).2.left; push_cast at *; omega, by rw [St.szl, Nat.zero_add] at i4; exact i4, i5, i6⟩
end Go.Proofs.Ytlcdafeoionnhaa
