/- What package flat makes of its own output: the same. -/
import Derived.Test.YtlcdafeoionnhaaFlat
namespace Go.Proofs.Ytlcdafeoionnhaa
open Go Vc
set_option linter.unusedSimpArgs false
set_option linter.unusedVariables false
/-! ### Names -/
def vn (i : Int) : ByteArray := ⟨#[118]⟩ ++ digS i
theorem vn_list (i : Int) : (vn i).data.toList = 118 :: digL i := by simp [vn, digS]
def dval (a : Nat) (l : List UInt8) : Nat := l.foldl (fun a b => a * 10 + (b.toNat - 48)) a
theorem dg_val (u : Nat) : (UInt8.ofNat (48 + u % 10)).toNat - 48 = u % 10 := by
  simp only [UInt8.toNat_ofNat']; omega
theorem dval_decs : ∀ (f u : Nat) (acc : List UInt8), u < 10 ^ f → dval 0 (decs f u acc) = dval u acc
  | 0, u, acc, h => by have : u = 0 := by simpa using h
                       subst this; rfl
  | f + 1, u, acc, h => by
    unfold decs
    split
    · rename_i h0
      simp only [dval, List.foldl_cons, Nat.zero_mul, Nat.zero_add]
      rw [dg_val, show u % 10 = u from by omega]
    · rw [dval_decs f (u / 10) _ (by rw [Nat.pow_succ] at h; omega)]
      simp only [dval, List.foldl_cons]
      rw [dg_val, show u / 10 * 10 + u % 10 = u from by omega]
theorem vn_inj {i j : Int} (hi : 0 ≤ i) (hj : 0 ≤ j) (hi2 : i ≤ 1000) (hj2 : j ≤ 1000) (h : (vn i).data.toList = (vn j).data.toList) : i = j := by
  rw [vn_list, vn_list] at h
  have h1 : digL i = digL j := (List.cons.inj h).2
  unfold digL at h1
  rw [decide_eq_false (by omega), decide_eq_false (by omega)] at h1
  simp only [cond_false] at h1
  have h2 := congrArg (dval 0) h1
  rw [dval_decs 20 _ _ (by omega), dval_decs 20 _ _ (by omega)] at h2
  simp only [dval, List.foldl_nil] at h2
  omega
/-! ### What is known -/
theorem ba_ext {a b : ByteArray} (h : a.data.toList = b.data.toList) : a = b := ByteArray.ext (Array.toList_inj.1 h)
theorem findK_same {kn : KN} (h : ∀ e ∈ kn, e.1 = e.2) (s : ByteArray) : (findK kn s).1 = s := by
  induction kn with
  | nil => rfl
  | cons e kn ih =>
    obtain ⟨o, f⟩ := e
    unfold findK
    have h0 := h (o, f) (by simp)
    by_cases hd : o.data.toList = s.data.toList
    · rw [decide_eq_true hd]; exact (show f = o from h0.symm).trans (ba_ext hd)
    · rw [decide_eq_false hd]; exact ih fun e he => h e (by simp [he])
theorem findK_mem {kn : KN} {s : ByteArray} (h : (findK kn s).2 = true) : ∃ e ∈ kn, e.2 = (findK kn s).1 := by
  induction kn with
  | nil => cases h
  | cons e kn ih =>
    obtain ⟨o, f⟩ := e
    unfold findK at h ⊢
    by_cases hd : o.data.toList = s.data.toList
    · rw [decide_eq_true hd]; exact ⟨(o, f), by simp, rfl⟩
    · rw [decide_eq_false hd] at h ⊢
      obtain ⟨e, he, hf⟩ := ih h
      exact ⟨e, by simp [he], hf⟩
theorem findK_none {kn : KN} {s : ByteArray} (h : ∀ e ∈ kn, e.1.data.toList ≠ s.data.toList) : findK kn s = (s, false) := by
  induction kn with
  | nil => rfl
  | cons e kn ih =>
    obtain ⟨o, f⟩ := e
    unfold findK
    rw [decide_eq_false (h (o, f) (by simp))]
    exact ih fun e he => h e (by simp [he])
/-- Known at the first pass, known at the second, names so far. -/
structure KK (kn kn2 : KN) (v : Int) : Prop where
  same : ∀ e ∈ kn2, e.1 = e.2
  img : ∀ e ∈ kn, (findK kn2 e.2).2 = true
  bd : ∀ e ∈ kn2, ∃ i, 0 ≤ i ∧ i < v ∧ e.1 = vn i
theorem KK.mono {kn kn2 : KN} {v v' : Int} (h : KK kn kn2 v) (l : v ≤ v') : KK kn kn2 v' := ⟨h.same, h.img, fun e he => let ⟨i, a, b, c⟩ := h.bd e he; ⟨i, a, by omega, c⟩⟩
theorem KK.nil {kn kn2 : KN} {v : Int} (h : KK kn kn2 v) : KK [] kn2 v := ⟨h.same, fun e he => by (cases he), h.bd⟩
theorem letK_two {kn kn2 : KN} {v : Int} (s : ByteArray) (h : KK kn kn2 v) (h0 : 0 ≤ v) (h1 : v ≤ 256) :
    ∃ kn2', letK kn2 (letK kn s v).1 v = ((letK kn s v).1, kn2', (letK kn s v).2.2) ∧ KK (letK kn s v).2.1 kn2' (letK kn s v).2.2 ∧ v ≤ (letK kn s v).2.2 ∧ (letK kn s v).2.2 ≤ v + 1 := by
  cases hf : (findK kn s).2
  · have e1 : letK kn s v = (vn v, (s, vn v) :: kn, v + 1) := by
      unfold letK; rw [hf, wrap_id (x := v + 1) (by omega) (by omega)]; rfl
    have e2 : findK kn2 (vn v) = (vn v, false) := findK_none fun e he hh => by
      obtain ⟨i, a, b, c⟩ := h.bd e he
      rw [c] at hh
      have := vn_inj a h0 (by omega) (by omega) hh
      omega
    refine ⟨(vn v, vn v) :: kn2, ?_, ?_, ?_, ?_⟩
    · rw [e1]; unfold letK; dsimp only; rw [e2, wrap_id (x := v + 1) (by omega) (by omega)]; rfl
    · rw [e1]
      refine ⟨fun e he => ?_, fun e he => ?_, fun e he => ?_⟩
      · rcases List.mem_cons.1 he with rfl | he
        · rfl
        · exact h.same e he
      · dsimp only at he
        unfold findK
        by_cases hd : (vn v).data.toList = e.2.data.toList
        · rw [decide_eq_true hd]; rfl
        · rw [decide_eq_false hd]
          rcases List.mem_cons.1 he with rfl | he
          · exact absurd rfl hd
          · exact h.img e he
      · rcases List.mem_cons.1 he with rfl | he
        · exact ⟨v, h0, by dsimp only; omega, rfl⟩
        · obtain ⟨i, a, b, c⟩ := h.bd e he; exact ⟨i, a, by dsimp only; omega, c⟩
    · rw [e1]; dsimp only; omega
    · rw [e1]; dsimp only; omega
  · have e1 : letK kn s v = ((findK kn s).1, kn, v) := by unfold letK; rw [hf]; rfl
    rw [e1]
    obtain ⟨e, he, hh⟩ := findK_mem hf
    have e2 := h.img e he
    rw [hh] at e2
    refine ⟨kn2, ?_, h, Int.le_refl _, by dsimp only; omega⟩
    unfold letK
    dsimp only
    rw [e2, findK_same h.same]; rfl
mutual
theorem Ex.ren_id {kn : KN} (h : ∀ e ∈ kn, e.1 = e.2) : ∀ x : Ex, x.ren kn = x
  | .mk op n s x => by
    simp only [Ex.ren, Ex.renl_id h x, findK_same h]
    cases decide (op = 4) <;> rfl
theorem Ex.renl_id {kn : KN} (h : ∀ e ∈ kn, e.1 = e.2) : ∀ x : List Ex, Ex.renl kn x = x
  | [] => rfl
  | a :: l => by simp only [Ex.renl, Ex.ren_id h a, Ex.renl_id h l]
end
theorem Ex.map_ren_id {kn : KN} (h : ∀ e ∈ kn, e.1 = e.2) (l : List Ex) : l.map (Ex.ren kn) = l := by rw [← Ex.renl_map, Ex.renl_id h]
/-! ### No loops, no calls -/
def NR (l : List St) : Prop := ∀ s ∈ St.alls l, s.op ≠ 14 ∧ s.op ≠ 15
theorem NR.nil : NR [] := fun s h => by (cases h)
theorem alls_append (a b : List St) : St.alls (a ++ b) = St.alls a ++ St.alls b := by rw [St.alls_flat, St.alls_flat, St.alls_flat]; simp
theorem NR.append {a b : List St} (ha : NR a) (hb : NR b) : NR (a ++ b) := fun s h => by
  rw [alls_append] at h
  rcases List.mem_append.1 h with h | h
  · exact ha s h
  · exact hb s h
theorem NR.one {s : St} (h1 : s.op ≠ 14) (h2 : s.op ≠ 15) (hb : NR s.body) (he : NR s.els) : NR [s] := fun x h => by
  simp only [St.alls, List.append_nil] at h
  rw [St.all_eq] at h
  rcases List.mem_cons.1 h with rfl | h
  · exact ⟨h1, h2⟩
  · rcases List.mem_append.1 h with h | h
    · exact hb x h
    · exact he x h
/-! ### Twice -/
/-- What a run promises on its own output. -/
structure Tw (rec2 : WS → List St → List St × WS) (w : WS) (r : List St × WS) : Prop where
  id : rec2 w r.1 = r
  v : w.vars ≤ r.2.vars
  s : r.2.vars + r.2.left ≤ w.vars + w.left
  n : NR r.1
/-- The numbers in reach. -/
structure Nm (w : WS) (f : Nat) : Prop where
  l0 : 0 ≤ w.left
  hi : w.left ≤ f
  v0 : 0 ≤ w.vars
  s : w.vars + w.left ≤ 256
theorem Nm.ok {w : WS} {f : Nat} (h : Nm w f) : w.ok f := ⟨by have := h.l0; omega, h.hi, by have := h.v0; omega, by have := h.s; have := h.l0; omega⟩
theorem Nm.ok2 {w : WS} {f : Nat} (h : Nm w f) : w.ok2 f := ⟨by have := h.l0; omega, h.hi, by have := h.v0; omega, by have := h.s; have := h.l0; omega⟩
theorem often_two {C f N : Nat} (hC : 2 ≤ C) (hf : f + 1 ≤ 256) (hN : N ≤ 4294967296) {Fb : WS → List St × WS} {rec2 : KN → WS → List St → List St × WS} {pf2 : ByteArray → List St} {kn2 : KN} (hs : ∀ e ∈ kn2, e.1 = e.2) (h0 : ∀ w, rec2 kn2 w [] = ([], w))
    (hb : ∀ w : WS, w.ok f → Fit C f N w (Fb w).1 (Fb w).2) {v : Int} (ht : ∀ w : WS, Nm w f → v ≤ w.vars → 0 ≤ (Fb w).2.left → Tw (rec2 kn2) w (Fb w)) :
    ∀ (n : Nat) (out : List St) (w : WS), Nm w (f + 1) → v ≤ w.vars → 0 ≤ (oftenF Fb n out w).2.left → ∃ o, (oftenF Fb n out w).1 = out ++ o ∧ NR o ∧ w.vars ≤ (oftenF Fb n out w).2.vars ∧ (oftenF Fb n out w).2.vars + (oftenF Fb n out w).2.left ≤ w.vars + w.left ∧ (oftenF Fb n out w).2.left ≤ w.left ∧
      ∀ tail out2, blkF rec2 pf2 (o ++ tail) out2 w kn2 = blkF rec2 pf2 tail (out2 ++ o) (oftenF Fb n out w).2 kn2
  | 0, out, w, hw, hv, _ => by
    simp only [oftenF]
    exact ⟨[], by simp, NR.nil, Int.le_refl _, Int.le_refl _, Int.le_refl _, fun tail out2 => by simp⟩
  | n + 1, out, w, hw, hv, hfin => by
    have hd := w.dec_left hw.ok2 hf
    have hw0 := hw.l0
    have hwh := hw.hi
    have hwv := hw.v0
    have hws := hw.s
    unfold oftenF at hfin ⊢
    by_cases hn : w.dec.left < 0
    · rw [decide_eq_true hn] at hfin
      simp only [cond_true] at hfin
      omega
    · rw [decide_eq_false hn] at hfin ⊢
      simp only [cond_false] at hfin ⊢
      have hdn : Nm w.dec f := ⟨by omega, by omega, hwv, by show w.vars + w.dec.left ≤ 256; omega⟩
      have hf1 := hb w.dec hdn.ok
      have hlow : -17592186044416 ≤ (Fb w.dec).2.left := by
        by_cases h1 : w.dec.left ≤ 0
        · have := hf1.neg h1; omega
        · have := hf1.pos (by omega); omega
      have hle := hf1.le
      have hok2 : (Fb w.dec).2.ok2 (f + 1) := ⟨by omega, by omega, hf1.v0, hf1.v1⟩
      have hnn : 0 ≤ (Fb w.dec).2.left := by
        have := (often_fit (M := (Fb w.dec).2.left) hC hf hN (fun w hw _ _ => hb w hw) n (out ++ [ifTrue (Fb w.dec).1]) (Fb w.dec).2 hok2 (Int.le_refl _)).1
        omega
      have t := ht w.dec hdn hv hnn
      have tv : w.vars ≤ (Fb w.dec).2.vars := t.v
      have ts : (Fb w.dec).2.vars + (Fb w.dec).2.left ≤ w.vars + w.dec.left := t.s
      obtain ⟨o, ho, hno, h3, h4, h5, h6⟩ := often_two hC hf hN hs h0 hb ht n (out ++ [ifTrue (Fb w.dec).1]) (Fb w.dec).2 ⟨hnn, by omega, by omega, by omega⟩ (by omega) hfin
      refine ⟨ifTrue (Fb w.dec).1 :: o, by rw [ho]; simp, ?_, by omega, by omega, by omega, fun tail out2 => ?_⟩
      · exact NR.append (a := [ifTrue (Fb w.dec).1]) (NR.one (by show (13 : Int) ≠ 14; decide) (by show (13 : Int) ≠ 15; decide) t.n NR.nil) hno
      · rw [List.cons_append, blkF]
        rw [show decide ((ifTrue (Fb w.dec).1).op = 14) = false from rfl, show decide ((ifTrue (Fb w.dec).1).op = 15) = false from rfl, decide_eq_false hn]
        simp only [cond_false]
        have h1 : oneF rec2 (ifTrue (Fb w.dec).1) w.dec kn2 = (ifTrue (Fb w.dec).1, (Fb w.dec).2, kn2) := by
          unfold oneF
          rw [show decide ((ifTrue (Fb w.dec).1).op = 12) = false from rfl]
          simp only [cond_false]
          rw [show (⟨w.dec.left, w.dec.vars⟩ : WS) = w.dec from rfl, show (ifTrue (Fb w.dec).1).body = (Fb w.dec).1 from rfl, show (ifTrue (Fb w.dec).1).els = [] from rfl, t.id, h0, Ex.map_ren_id hs]
          rfl
        rw [h1]
        dsimp only
        rw [h6]
        simp
theorem oneF_mk (rec : KN → WS → List St → List St × WS) (o n : Int) (s : ByteArray) (e : List Ex) (b f : List St) (c : Bool) (w : WS) (kn : KN) : oneF rec (.mk o s n e b f c) w kn =
    (fun (q : ByteArray × KN × Int) => (fun (b : List St × WS) => (fun (f : List St × WS) => (St.mk o q.1 n (e.map (Ex.ren kn)) b.1 f.1 c, f.2, q.2.1)) (rec q.2.1 b.2 f)) (rec q.2.1 ⟨w.left, q.2.2⟩ b))
    (bif decide (o = 12) then letK kn s w.vars else (s, kn, w.vars)) := rfl
/-- One statement. -/
theorem one_two {C f : Nat} (hC1 : C ≤ 4294967296) (hf : f + 1 ≤ 256) {rec rec2 : KN → WS → List St → List St × WS}
    (hb : ∀ kn (w : WS) l, w.ok f → St.szl l + 2 ≤ C → Fit C f C w (rec kn w l).1 (rec kn w l).2) (ht : ∀ kn kn2 (w : WS) l, Nm w f → St.szl l + 2 ≤ C → KK kn kn2 w.vars → 0 ≤ (rec kn w l).2.left → Tw (rec2 kn2) w (rec kn w l))
    {s : St} {w : WS} {kn kn2 : KN} (hw : Nm w f) (hv : w.vars + w.left + 1 ≤ 256) (hk : KK kn kn2 w.vars) (hcb : St.szl s.body + 2 ≤ C) (hce : St.szl s.els + 2 ≤ C) (hfin : 0 ≤ (oneF rec s w kn).2.1.left) (h14 : s.op ≠ 14) (h15 : s.op ≠ 15) :
    ∃ kn2', oneF rec2 (oneF rec s w kn).1 w kn2 = ((oneF rec s w kn).1, (oneF rec s w kn).2.1, kn2') ∧ KK (oneF rec s w kn).2.2 kn2' (oneF rec s w kn).2.1.vars ∧ w.vars ≤ (oneF rec s w kn).2.1.vars ∧ (oneF rec s w kn).2.1.vars + (oneF rec s w kn).2.1.left ≤ w.vars + w.left + 1 ∧ NR [(oneF rec s w kn).1] ∧ (oneF rec s w kn).1.op = s.op := by
  have hw0 := hw.l0
  have hwh := hw.hi
  have hwv := hw.v0
  have hws := hw.s
  obtain ⟨q, hq⟩ : ∃ q, q = (bif decide (s.op = 12) then letK kn s.s w.vars else (s.s, kn, w.vars)) := ⟨_, rfl⟩
  have hq2 : ∃ kn2', (bif decide (s.op = 12) then letK kn2 q.1 w.vars else (q.1, kn2, w.vars)) = (q.1, kn2', q.2.2) ∧ KK q.2.1 kn2' q.2.2 ∧ w.vars ≤ q.2.2 ∧ q.2.2 ≤ w.vars + 1 := by
    rw [hq]
    cases decide (s.op = 12)
    · exact ⟨kn2, rfl, hk, Int.le_refl _, by show w.vars ≤ w.vars + 1; omega⟩
    · exact letK_two s.s hk hwv (by omega)
  obtain ⟨kn2', h1, h2, h3, h4⟩ := hq2
  have hone : oneF rec s w kn = (St.mk s.op q.1 s.n (s.e.map (Ex.ren kn)) (rec q.2.1 ⟨w.left, q.2.2⟩ s.body).1 (rec q.2.1 (rec q.2.1 ⟨w.left, q.2.2⟩ s.body).2 s.els).1 s.commit, (rec q.2.1 (rec q.2.1 ⟨w.left, q.2.2⟩ s.body).2 s.els).2, q.2.1) := by
    unfold oneF; rw [← hq]
  rw [hone] at hfin ⊢
  dsimp only at hfin ⊢
  have hwn : Nm ⟨w.left, q.2.2⟩ f := ⟨hw0, hwh, by dsimp only; omega, by dsimp only; omega⟩
  have b1 := hb q.2.1 ⟨w.left, q.2.2⟩ s.body hwn.ok hcb
  have t1 := ht q.2.1 kn2' ⟨w.left, q.2.2⟩ s.body hwn hcb h2
  generalize rec q.2.1 ⟨w.left, q.2.2⟩ s.body = b at b1 t1 hfin ⊢
  have b1le : b.2.left ≤ w.left := b1.le
  have hblo : -17592186044416 ≤ b.2.left := by
    by_cases h : w.left ≤ 0
    · have : w.left - C ≤ b.2.left := b1.neg h; omega
    · have := b1.pos (show (1 : Int) ≤ w.left by omega); omega
  have b2 := hb q.2.1 b.2 s.els ⟨hblo, by omega, b1.v0, b1.v1⟩ hce
  have hbl : 0 ≤ b.2.left := by have := b2.le; omega
  have t1 := t1 hbl
  have t1v : q.2.2 ≤ b.2.vars := t1.v
  have t1s : b.2.vars + b.2.left ≤ q.2.2 + w.left := t1.s
  have hbn : Nm b.2 f := ⟨hbl, by omega, by omega, by omega⟩
  have t2 := ht q.2.1 kn2' b.2 s.els hbn hce (h2.mono t1v)
  generalize rec q.2.1 b.2 s.els = g at b2 t2 hfin ⊢
  have t2 := t2 hfin
  refine ⟨kn2', ?_, h2.mono (by have := t2.v; omega), by have := t2.v; omega, by have := t2.s; omega, NR.one h14 h15 t1.n t2.n, rfl⟩
  rw [oneF_mk, h1]
  dsimp only
  rw [t1.id, t2.id, Ex.map_ren_id hk.same]
theorem blk_two {C f : Nat} (hC1 : C ≤ 4294967296) (hf : f + 1 ≤ 256) {rec rec2 : KN → WS → List St → List St × WS} {pf pf2 : ByteArray → List St} (hp : ∀ s, St.szl (pf s) + 2 ≤ C) (h0 : ∀ kn w, rec2 kn w [] = ([], w))
    (hb : ∀ kn (w : WS) l, w.ok f → St.szl l + 2 ≤ C → Fit C f C w (rec kn w l).1 (rec kn w l).2) (ht : ∀ kn kn2 (w : WS) l, Nm w f → St.szl l + 2 ≤ C → KK kn kn2 w.vars → 0 ≤ (rec kn w l).2.left → Tw (rec2 kn2) w (rec kn w l)) :
    ∀ (l out out2 : List St) (w : WS) (kn kn2 : KN), Nm w (f + 1) → St.szl l + 2 ≤ C → KK kn kn2 w.vars → 0 ≤ (blkF rec pf l out w kn).2.left →
      ∃ o, (blkF rec pf l out w kn).1 = out ++ o ∧ blkF rec2 pf2 o out2 w kn2 = (out2 ++ o, (blkF rec pf l out w kn).2) ∧ w.vars ≤ (blkF rec pf l out w kn).2.vars ∧ (blkF rec pf l out w kn).2.vars + (blkF rec pf l out w kn).2.left ≤ w.vars + w.left ∧ NR o
  | [], out, out2, w, kn, kn2, hw, _, hk, _ => by
    simp only [blkF]
    exact ⟨[], by simp, by simp [blkF], Int.le_refl _, Int.le_refl _, NR.nil⟩
  | s :: l, out, out2, w, kn, kn2, hw, hl, hk, hfin => by
    have hw0 := hw.l0
    have hwh := hw.hi
    have hwv := hw.v0
    have hws := hw.s
    have hsz : s.sz = Ex.szl s.e + St.szl s.body + St.szl s.els + 1 := s.sz_eq
    have hl' : s.sz + St.szl l + 2 ≤ C := hl
    have hll := St.szl_len l
    have hd := w.dec_left hw.ok2 hf
    have nn : ∀ (out' : List St) (w' : WS) (kn' : KN), -17600776036352 + (l.length : Int) ≤ w'.left → w'.left ≤ f + 1 → -9223372036854775808 ≤ w'.vars → w'.vars ≤ 9223372036854775807 → 0 ≤ (blkF rec pf l out' w' kn').2.left → 0 ≤ w'.left := by
      intro out' w' kn' h1 h2 h3 h4 h5
      have := (blk_fit (M := w'.left) hC1 hf hp (fun _ => hb) l out' w' kn' ⟨by omega, h2, h3, h4⟩ (Int.le_refl _) h1 (by omega)).1
      omega
    have go : ∀ (o1 : List St) (w1 : WS) (kn' : KN), Nm w1 (f + 1) → w.vars ≤ w1.vars → w1.vars + w1.left ≤ w.vars + w.left → NR o1 → (∃ kn1', KK kn' kn1' w1.vars ∧ ∀ tail out2, blkF rec2 pf2 (o1 ++ tail) out2 w kn2 = blkF rec2 pf2 tail (out2 ++ o1) w1 kn1') → 0 ≤ (blkF rec pf l (out ++ o1) w1 kn').2.left →
        ∃ o, (blkF rec pf l (out ++ o1) w1 kn').1 = out ++ o ∧ blkF rec2 pf2 o out2 w kn2 = (out2 ++ o, (blkF rec pf l (out ++ o1) w1 kn').2) ∧ w.vars ≤ (blkF rec pf l (out ++ o1) w1 kn').2.vars ∧ (blkF rec pf l (out ++ o1) w1 kn').2.vars + (blkF rec pf l (out ++ o1) w1 kn').2.left ≤ w.vars + w.left ∧ NR o := by
      intro o1 w1 kn' hn1 hv hs hno ⟨kn1', hk', hst⟩ hfin'
      obtain ⟨o, e1, e2, e3, e4, e5⟩ := blk_two hC1 hf hp h0 hb ht l (out ++ o1) (out2 ++ o1) w1 kn' kn1' hn1 (by omega) hk' hfin'
      exact ⟨o1 ++ o, by rw [e1]; simp, by rw [hst, e2]; simp, by omega, by omega, hno.append e5⟩
    simp only [blkF] at hfin ⊢
    by_cases c1 : s.op = 14
    · rw [decide_eq_true c1] at hfin ⊢
      simp only [cond_true] at hfin ⊢
      obtain ⟨a1, a2, a3, a4, a5, a6⟩ := often_fit (C := C) (N := C) (by omega) hf hC1 (Fb := fun w => rec kn w s.body) (M := w.left) (fun w hw h0 hm => hb kn w s.body hw (by omega)) s.n.toNat [] w hw.ok2 (Int.le_refl _)
      have hw1 := nn _ _ _ (by by_cases h9 : w.left ≤ 0; (have := a2 h9; omega); (have := a3 (by omega); omega)) (by omega) a5 a6 hfin
      obtain ⟨o, ho, hno, h3, h4, h5, h6⟩ := often_two (N := C) (C := C) (pf2 := pf2) (v := w.vars) (by omega) hf hC1 hk.same (h0 kn2) (Fb := fun w => rec kn w s.body) (fun w hw => hb kn w s.body hw (by omega)) (fun w' hn hv hl => ht kn kn2 w' s.body hn (by omega) (hk.mono hv) hl) s.n.toNat [] w hw (Int.le_refl _) hw1
      rw [List.nil_append] at ho
      rw [ho] at hfin ⊢
      exact go o _ kn ⟨hw1, by omega, by omega, by omega⟩ h3 h4 hno ⟨kn2, hk.mono h3, h6⟩ hfin
    · rw [decide_eq_false c1] at hfin ⊢
      simp only [cond_false] at hfin ⊢
      by_cases c2 : s.op = 15
      · rw [decide_eq_true c2] at hfin ⊢
        simp only [cond_true] at hfin ⊢
        have hpp := hp s.s
        obtain ⟨a1, a2, a3, a4, a5, a6⟩ := often_fit (C := C) (N := C) (by omega) hf hC1 (Fb := fun w => rec [] w (pf s.s)) (M := w.left) (fun w hw h0 hm => hb [] w (pf s.s) hw hpp) 1 [] w hw.ok2 (Int.le_refl _)
        have hw1 := nn _ _ _ (by by_cases h9 : w.left ≤ 0; (have := a2 h9; omega); (have := a3 (by omega); omega)) (by omega) a5 a6 hfin
        obtain ⟨o, ho, hno, h3, h4, h5, h6⟩ := often_two (N := C) (C := C) (pf2 := pf2) (v := w.vars) (by omega) hf hC1 hk.same (h0 kn2) (Fb := fun w => rec [] w (pf s.s)) (fun w hw => hb [] w (pf s.s) hw hpp) (fun w' hn hv hl => ht [] kn2 w' (pf s.s) hn hpp (hk.mono hv).nil hl) 1 [] w hw (Int.le_refl _) hw1
        rw [List.nil_append] at ho
        rw [ho] at hfin ⊢
        exact go o _ kn ⟨hw1, by omega, by omega, by omega⟩ h3 h4 hno ⟨kn2, hk.mono h3, h6⟩ hfin
      · rw [decide_eq_false c2] at hfin ⊢
        simp only [cond_false] at hfin ⊢
        by_cases hn : w.dec.left < 0
        · rw [decide_eq_true hn] at hfin
          simp only [cond_true] at hfin
          omega
        · rw [decide_eq_false hn] at hfin ⊢
          simp only [cond_false] at hfin ⊢
          have hdn : Nm w.dec f := ⟨by omega, by omega, hwv, by show w.vars + w.dec.left ≤ 256; omega⟩
          obtain ⟨o1, o2, o3, o4, o5⟩ := one_fit hC1 (fun kn w l hw hl => hb kn w l hw hl) (kn := kn) hf hdn.ok hdn.l0 (s := s) (by omega) (by omega) (by omega)
          have hw1 := nn _ _ _ (by omega) (by omega) o4 o5 hfin
          obtain ⟨kn2', e1, e2, e3, e4, e5, e6⟩ := one_two hC1 hf hb ht hdn (show w.vars + w.dec.left + 1 ≤ 256 by omega) hk (by omega) (by omega) hw1 c1 c2
          have e3' : w.vars ≤ (oneF rec s w.dec kn).2.1.vars := e3
          have e4' : (oneF rec s w.dec kn).2.1.vars + (oneF rec s w.dec kn).2.1.left ≤ w.vars + w.dec.left + 1 := e4
          refine go [(oneF rec s w.dec kn).1] _ _ ⟨hw1, by omega, by omega, by omega⟩ e3' (by omega) e5 ⟨kn2', e2, fun tail out2 => ?_⟩ hfin
          rw [List.cons_append, List.nil_append, blkF, e6, decide_eq_false c1, decide_eq_false c2, decide_eq_false hn]
          simp only [cond_false]
          rw [e1]
theorem F_blk_nil (pf : ByteArray → List St) (f : Nat) (kn : KN) (w : WS) : F_blk pf f kn w [] = ([], w) := by cases f <;> rfl
theorem F_blk_two {C : Nat} {pf pf2 : ByteArray → List St} (hC1 : C ≤ 4294967296) (hp : ∀ s, St.szl (pf s) + 2 ≤ C) : ∀ (f : Nat), f ≤ 256 → ∀ (kn kn2 : KN) (w : WS) (l : List St), Nm w f → St.szl l + 2 ≤ C → KK kn kn2 w.vars → 0 ≤ (F_blk pf f kn w l).2.left → Tw (F_blk pf2 f kn2) w (F_blk pf f kn w l) := by
  intro f
  induction f with
  | zero =>
    intro _ kn kn2 w l hw hl hk hfin
    obtain ⟨o, h1, h2, h3, h4, h5⟩ := blk_two (f := 0) (rec := fun _ w _ => ([], w)) (rec2 := fun _ w _ => ([], w)) (pf2 := pf2) hC1 (by decide) hp (fun _ _ => rfl)
      (fun kn w l hw _ => ⟨Int.le_refl _, fun _ => by dsimp only; omega, fun h => absurd hw.hi (by omega), by simp [St.szl], hw.v0, hw.v1⟩)
      (fun kn kn2 w l _ _ _ _ => ⟨rfl, Int.le_refl _, Int.le_refl _, NR.nil⟩) l [] [] w kn kn2 ⟨hw.l0, by have := hw.hi; omega, hw.v0, hw.s⟩ hl hk hfin
    rw [List.nil_append] at h1
    refine ⟨?_, h3, h4, h1.symm ▸ h5⟩
    show blkF _ pf2 (F_blk pf 0 kn w l).1 [] w kn2 = _
    rw [show (F_blk pf 0 kn w l).1 = o from h1, h2, List.nil_append]
    exact Prod.ext h1.symm rfl
  | succ f ih =>
    intro hf kn kn2 w l hw hl hk hfin
    obtain ⟨o, h1, h2, h3, h4, h5⟩ := blk_two (f := f) (rec := F_blk pf f) (rec2 := F_blk pf2 f) (pf2 := pf2) hC1 hf hp (F_blk_nil pf2 f)
      (fun kn w l hw hl => F_blk_fit hC1 hp f (by omega) kn w l hw hl) (fun kn kn2 w l => ih (by omega) kn kn2 w l) l [] [] w kn kn2 hw hl hk hfin
    rw [List.nil_append] at h1
    refine ⟨?_, h3, h4, h1.symm ▸ h5⟩
    show blkF _ pf2 (F_blk pf (f + 1) kn w l).1 [] w kn2 = _
    rw [show (F_blk pf (f + 1) kn w l).1 = o from h1, h2, List.nil_append]
    exact Prod.ext h1.symm rfl
end Go.Proofs.Ytlcdafeoionnhaa
