/- Walks of functions, printed by a program of this session (wip/tool/eng.py). -/
import Derived.Test.YtlcdafeoionnhaaProg
import Derived.Test.YtlcdafeoionnhaaScope
import Derived.Test.YtlcdafeoionnhaaWb
import Derived.Test.YtlcdafeoionnhaaWc
import Derived.Test.YtlcdafeoionnhaaWi
namespace Go.Proofs.Ytlcdafeoionnhaa
open Go
set_option linter.unusedVariables false
set_option linter.unusedSimpArgs false
namespace Wj
theorem bo71 : bodyOk Try.prog 71 = true := by kernel_rfl
theorem bo82 : bodyOk Try.prog 82 = true := by kernel_rfl
theorem eo133 : elemO Try.prog 133 = some (3, 1) := by kernel_rfl
theorem eo33 : elemO Try.prog 33 = some (53, 4) := by kernel_rfl
theorem fo53_0 : fieldO Try.prog 53 0 = some 0 := by kernel_rfl
theorem fo53_2 : fieldO Try.prog 53 2 = some 2 := by kernel_rfl
theorem fo53_3 : fieldO Try.prog 53 3 = some 3 := by kernel_rfl
theorem mx : Try.prog.follows .mixedOrders = true := by kernel_rfl
theorem ss33 : isSliceT Try.prog 33 = true := by kernel_rfl
theorem ty3 : tyI Try.prog 3 = some (false, 1) := by kernel_rfl
theorem ty33 : tyI Try.prog 33 = some (false, 1) := by kernel_rfl
theorem ty53 : tyI Try.prog 53 = some (true, 4) := by kernel_rfl
theorem ty9 : tyI Try.prog 9 = some (false, 1) := by kernel_rfl
theorem zo3 : zeroOf Try.prog 3 = some (.int .i64 0) := by kernel_rfl
theorem zo53 : zeroOf Try.prog 53 = some (.agg #[.int .i64 0, .int .i64 0, .string ⟨#[]⟩, .slice none 0 0]) := by kernel_rfl
open Wb Wc Wi
theorem tys_step {kf : ByteArray → Int} : ∀ {l : List Ex} {i : Nat} {d : Ex} {ks : List Int}, l[i]? = some d → Ex.tys kf (l.take i) = (ks, 0) → Ex.tys kf (l.take (i + 1)) = if (d.ty kf).2 = 0 then (ks ++ [(d.ty kf).1], 0) else (ks, (d.ty kf).2)
  | [], i, d, ks, h, _ => by simp at h
  | a :: l, 0, d, ks, h, k => by
    simp at h; subst h
    simp only [List.take_zero, Ex.tys, Prod.mk.injEq, and_true] at k
    subst k
    simp only [List.take_succ_cons, List.take_zero, Ex.tys]
    by_cases h0 : (a.ty kf).2 = 0 <;> simp [h0]
  | a :: l, i + 1, d, ks, h, k => by
    simp only [List.take_succ_cons, Ex.tys] at k ⊢
    by_cases h0 : (a.ty kf).2 = 0
    · simp only [h0, if_true] at k ⊢
      generalize hz : Ex.tys kf (l.take i) = z at k
      obtain ⟨z1, z2⟩ := z
      simp only [Prod.mk.injEq] at k
      obtain ⟨rfl, rfl⟩ := k
      rw [tys_step (by simpa using h) hz]
      split <;> simp
    · simp only [h0, if_false, Prod.mk.injEq] at k
      exact k.2.elim
theorem tys_err {kf : ByteArray → Int} : ∀ {l : List Ex} {i : Nat}, (Ex.tys kf (l.take i)).2 ≠ 0 → (Ex.tys kf l).2 = (Ex.tys kf (l.take i)).2
  | [], i, h => by simp [Ex.tys] at h
  | a :: l, 0, h => by simp [Ex.tys] at h
  | a :: l, i + 1, h => by
    simp only [List.take_succ_cons, Ex.tys] at h ⊢
    by_cases h0 : (a.ty kf).2 = 0
    · simp only [h0, if_true] at h ⊢
      exact tys_err h
    · simp only [h0, if_false]
theorem tys_len {kf : ByteArray → Int} : ∀ {l : List Ex} {ks : List Int}, Ex.tys kf l = (ks, 0) → ks.length = l.length
  | [], ks, h => by simp only [Ex.tys, Prod.mk.injEq] at h; rw [← h.1]; rfl
  | a :: l, ks, h => by
    simp only [Ex.tys] at h
    by_cases h0 : (a.ty kf).2 = 0
    · simp only [h0, if_true] at h
      generalize hz : Ex.tys kf l = z at h
      obtain ⟨z1, z2⟩ := z
      simp only [Prod.mk.injEq] at h
      obtain ⟨rfl, rfl⟩ := h
      simp [tys_len hz]
    · simp only [h0, if_false, Prod.mk.injEq] at h
      exact h.2.elim
def pad (ks : List Int) : List Value := [.int .i64 (ks[0]?.getD 0), .int .i64 (ks[1]?.getD 0)]
theorem pad_put {ks : List Int} {i : Nat} {v : Int} (h : ks.length = i) (hi : i < 2) : (pad ks).take i ++ [Value.int .i64 v] ++ (pad ks).drop (i + 1) = pad (ks ++ [v]) := by
  match ks, h with
  | [], h => subst h; rfl
  | [a], h => subst h; rfl
  | a :: b :: l, h => simp only [List.length_cons] at h; omega
theorem ok_two {x : Ex} {d : Nat} (h : x.ok d = true) : x.x.length ≤ 2 := by
  rw [Ex.ok_eq] at h
  simp only [Bool.and_eq_true, decide_eq_true_eq] at h
  have h1 := h.1.1.2
  unfold partsN at h1
  (repeat' split at h1) <;> omega
theorem ok_kid {x a : Ex} {d : Nat} (h : x.ok d = true) (ha : a ∈ x.x) : a.ok (d - 1) = true := by
  rw [Ex.ok_eq, Ex.okl_all] at h
  simp only [Bool.and_eq_true, List.all_eq_true] at h
  exact h.2 a ha
def OfOk (k : Nat) : Prop := ∀ (I : Hp) (cs : List Value) (x : Ex) (d : Nat) (kf : ByteArray → Int) (g : Nat) (fs caps : List Value) (Rk : HP), RE k I cs x → x.ok d = true → bodyOk Try.prog g = true → (∀ I1, I.le I1 → ∀ s, Fn Try.prog g (fs ++ [Value.string s] ++ caps).toArray I1 [Rk] (Ret (X := Unit) (fun _ _ => True) (fun _ => .int .i64 (kf s)) fun _ => [Rk])) → Fn Try.prog 71 #[.agg cs.toArray, .func (.func g) fs.toArray caps.toArray] I [Rk] (Ret (X := Unit) (fun _ _ => True) (fun _ => .tuple #[.int .i64 (x.ty kf).1, .int .i64 (x.ty kf).2]) fun _ => [Rk])
theorem of_ : ∀ k, OfOk k := by
 intro k
 induction k with
 | zero => intro I cs x d kf g fs caps Rk h; exact h.elim
 | succ k ih =>
 intro I cs x d kf g fs caps Rk hre hok hg hF
 obtain ⟨A, m, cp, rfl, hx⟩ := hre
 obtain rfl := hx.1
 have h2 := ok_two hok
 change REs k I A x.x.length cp x.x at hx
 show Fn _ _ [_, _].toArray _ _ _
 refine Fn.of (args := [_, _]) Try.func71 rfl rfl ?_
 refine JJ.seq ?_
 refine JJ.region rfl fun rg => ?_
 refine JJ.box (cs := [.int .i64 (x.op), .int .i64 (x.n), .string (x.s), .slice (A) (x.x.length) (cp)]) rg rfl rfl rfl rfl fun b1 => ?_
 refine JJ.assign rg rfl rfl rfl ?_
 refine JJ.assign rg rfl rfl rfl ?_
 refine JJ.regionEnd ?_
 refine JJ.seq ?_
 refine JJ.region rfl fun rg => ?_
 refine JJ.buildSlice (cs := [.int .i64 0, .int .i64 0]) eo133 zo3 rg rfl rfl rfl rfl rfl rfl rfl fun b2 => ?_
 refine JJ.assign rg rfl rfl rfl ?_
 refine JJ.regionEnd ?_
 refine JJ.seq ?_
 refine JJ.seq ?_
 refine JJ.region rfl fun rg => ?_
 refine JJ.fieldAddr (a' := ⟨b1, 3, none⟩) fo53_3 rg rfl rfl rfl rfl ?_
 refine JJ.loadL (v := .slice (A) (x.x.length) (cp)) ty33 1 rg rfl rfl rfl rfl rfl ?_
 refine JJ.lenSlice ss33 rg rfl rfl rfl ?_
 refine JJ.move rg rfl rfl rfl ?_
 refine JJ.regionEnd ?_
 refine JJ.block ?_
 refine JJ.blkOwn (n := 2) (sz := 1) rfl ?_
 refine JJ.induct (X := Nat × Hp × List Int) (fun z => [(1, .func (.func g) fs.toArray caps.toArray), (2, .pointer (some ⟨b1, 0, none⟩)), (6, .slice (some ⟨b2, 0, none⟩) (2) (2)), (16, .slice A x.x.length cp), (17, .int .i64 x.x.length), (18, .int .i64 z.1)]) (fun z => z.2.1) (fun z => [own 3 1 (some ⟨b2, 0, none⟩) 2 2 (pad z.2.2), blk b1 (.cells ([.int .i64 (x.op), .int .i64 (x.n), .string (x.s), .slice (A) (x.x.length) (cp)]).toArray 53), Rk])
  (fun z => z.1 ≤ x.x.length ∧ Hp.le I z.2.1 ∧ Ex.tys kf (x.x.take z.1) = (z.2.2, 0)) (fun z => x.x.length - z.1) (0, I, []) ⟨Nat.zero_le _, .refl _, rfl⟩ (fun h => JJ.keep _ (by repeat (first | exact trivial | refine ⟨rfl, ?_⟩)) h) ?_
 rintro ⟨i, I1, ks⟩ ⟨hi, hle, hks⟩ ihl
 dsimp only at hi hle hks ihl ⊢
 have hkl := tys_len hks
 rw [List.length_take, Nat.min_eq_left hi] at hkl
 refine JJ.seq ?_
 refine JJ.region rfl fun rg => ?_
 refine JJ.bin rg rfl rfl rfl rfl rfl ?_
 refine JJ.regionEnd ?_
 refine JJ.seq ?_
 refine JJ.cond2 rfl (fun hc3 => ?_) (fun hc3 => ?_)
 ·
  have hc3b : (decide ((((i : Nat) : Int) : Int) < ((x.x.length : Nat) : Int))) = true := hc3
  replace hc3 := of_decide_eq_true hc3
  have hlt : i < x.x.length := by omega
  obtain ⟨a, ha⟩ : ∃ a, x.x[i]? = some a := ⟨_, List.getElem?_eq_getElem hlt⟩
  have hst := tys_step ha hks
  have hak := ok_kid hok (List.mem_of_getElem? ha)
  refine JJ.skip ?_
  refine JJ.seq ?_
  refine JJ.block ?_
  refine JJ.seq ?_
  refine JJ.region rfl fun rg => ?_
  refine JJ.move rg rfl rfl rfl ?_
  obtain ⟨aa, cs1, hA, hcap, hcl, hre1, hrow⟩ := RSl.get (REs.mono hx hle) ha
  cases hA
  refine JJ.indexAddr (a' := aa.add (i * 4)) eo33 rg rfl rfl rfl rfl (by omega) (by omega) rfl ?_
  refine JJ.loadI (v := .agg (cs1).toArray) ty53 rg rfl rfl rfl hrow (ldV_all hcl) ?_
  refine JJ.alloc (cs := [.int .i64 0, .int .i64 0, .string (⟨#[]⟩), .slice (none) (0) (0)]) zo53 rfl rg rfl rfl fun b3 => ?_
  refine JJ.assign rg rfl rfl rfl ?_
  refine JJ.store (cs' := cs1) ty53 0 rg rfl rfl rfl rfl rfl rfl (by simp [hcl]) (by simpa using hre1.one) (by simp [hcl]) (stC_all (by simp [hcl])) rfl ?_
  refine JJ.regionEnd ?_
  refine JJ.seq ?_
  refine JJ.region rfl fun rg => ?_
  refine JJ.loadL (v := .agg (cs1).toArray) ty53 0 rg rfl rfl rfl rfl (ldV_all hcl) ?_
  refine JJ.move rg rfl rfl rfl ?_
  (try dsimp only [List.set])
  refine JJ.call (Lc := [Rk]) (Lr := [_, _, _]) bo71 rg rfl rfl rfl rfl (ih _ cs1 a (d - 1) kf g fs caps Rk hre1 hak hg (fun I1 l s => hF I1 (hle.trans l) s)) (fun h q => Sat.rot (A := [_, _, _]) (B := [Rk]) q) fun _ I4 hle5 _ => ?_
  refine JJ.res (fun h q => Sat.rot (A := [Rk]) q) ?_
  dsimp only [List.cons_append, List.nil_append]
  replace hle := hle.trans hle5
  refine JJ.move rg rfl rfl rfl ?_
  refine JJ.extract rg rfl rfl rfl rfl ?_
  refine JJ.extract rg rfl rfl rfl rfl ?_
  refine JJ.assign rg rfl rfl rfl ?_
  refine JJ.assign rg rfl rfl rfl ?_
  refine JJ.regionEnd ?_
  refine JJ.seq ?_
  refine JJ.seq ?_
  refine JJ.region rfl fun rg => ?_
  refine JJ.move rg rfl rfl rfl ?_
  refine JJ.bin rg rfl rfl rfl rfl rfl ?_
  refine JJ.regionEnd ?_
  refine JJ.cond2 rfl (fun hc6 => ?_) (fun hc6 => ?_)
  ·
   have hc6b : (!decide (((a.ty kf).2 : Int) = 0)) = true := hc6
   replace hc6 := not_t hc6
   replace hc6b := hc6
   replace hc6 := of_decide_eq_false hc6
   have her : (x.ty kf) = (0, (a.ty kf).2) := by rw [if_neg hc6] at hst; have h9 := tys_err (kf := kf) (l := x.x) (i := i + 1) (by rw [hst]; exact hc6); rw [Ex.ty_eq, h9, hst, if_neg hc6]
   refine JJ.seq ?_
   refine JJ.region rfl fun rg => ?_
   refine JJ.move rg rfl rfl rfl ?_
   refine JJ.assign rg rfl rfl rfl ?_
   refine JJ.assign rg rfl rfl rfl ?_
   refine JJ.regionEnd ?_
   refine JJ.drop ?_
   refine JJ.drop ?_
   refine JJ.drop ?_
   refine JJ.ret2 rfl Try.func71 rfl rfl rfl fun h q => ⟨(), trivial, ?_, q⟩
   have hres : x.ty kf = (0, (a.ty kf).2) := by rw [her]
   (rw [hres] <;> rfl)
  ·
   have hc6b : (!decide (((a.ty kf).2 : Int) = 0)) = false := hc6
   replace hc6 := not_f hc6
   replace hc6b := hc6
   replace hc6 := of_decide_eq_true hc6
   rw [if_pos (by omega)] at hst
   refine JJ.skip ?_
   refine JJ.region rfl fun rg => ?_
   refine JJ.move rg rfl rfl rfl ?_
   refine JJ.move rg rfl rfl rfl ?_
   refine JJ.move rg rfl rfl rfl ?_
   refine JJ.indexAddr (a' := ⟨b2, i, none⟩) eo133 rg rfl rfl rfl rfl (by omega) (by omega) (by rw [Addr.add_lit]; simp) ?_
   (try dsimp only [List.set])
   refine JJ.storeOwn (vs := [.int .i64 (a.ty kf).1]) ty3 1 rg rfl rfl rfl rfl rfl rfl rfl (by simp [Value.oneCell']) (by simp [pad]; omega) ?_
   dsimp only [List.set]
   rw [show (pad ks).take i ++ [Value.int .i64 (a.ty kf).1] ++ (pad ks).drop (i + [Value.int .i64 (a.ty kf).1].length) = pad (ks ++ [(a.ty kf).1]) from pad_put hkl (by omega)]
   refine JJ.regionEnd ?_
   refine JJ.inBlock ?_
   refine JJ.region rfl fun rg => ?_
   refine JJ.binI (z := ((i + 1 : Nat) : Int)) rg rfl rfl rfl rfl rfl (wrap_to (by omega) (by omega) (by omega)) ?_
   refine JJ.move rg rfl rfl rfl ?_
   refine JJ.regionEnd ?_
   refine JJ.drop ?_
   refine JJ.keep _ ?_ (ihl (i + 1, _, ks ++ [(a.ty kf).1]) ⟨hlt, hle, hst⟩ (by dsimp only; omega))
   repeat (first | exact trivial | refine ⟨rfl, ?_⟩)
 ·
  have hc3b : (decide ((((i : Nat) : Int) : Int) < ((x.x.length : Nat) : Int))) = false := hc3
  replace hc3 := of_decide_eq_false hc3
  obtain rfl : i = x.x.length := by omega
  rw [List.take_length] at hks
  refine JJ.exit rfl ?_
  refine JJ.seq ?_
  refine JJ.draw (m := 12) [(1, .func (.func g) fs.toArray caps.toArray), (2, .pointer (some ⟨b1, 0, none⟩)), (6, .slice (some ⟨b2, 0, none⟩) (2) (2))]
   (fun i => match i with | 0 => fun _ v => v = .slice (some ⟨b2, 0, none⟩) (2) (2) | 1 => fun _ v => v = .pointer (some ⟨b2, 0, none⟩) | 2 => fun _ v => v = .int .i64 (ks[0]?.getD 0) | 3 => fun _ v => v = .slice (some ⟨b2, 0, none⟩) (2) (2) | 4 => fun _ v => v = .pointer (some ⟨b2, 0, none⟩) | 5 => fun _ v => v = .int .i64 (ks[0]?.getD 0) | 6 => fun _ v => v = .slice (some ⟨b2, 0, none⟩) (2) (2) | 7 => fun _ v => v = .pointer (some ⟨b2, 1, none⟩) | 8 => fun _ v => v = .int .i64 (ks[1]?.getD 0) | 9 => fun _ v => v = .bool (decide ((ks[0]?.getD 0 : Int) = ks[1]?.getD 0)) | 10 => fun _ v => v = .int .i64 (ks[0]?.getD 0) | 11 => fun _ v => v = .bool (decide ((ks[0]?.getD 0 : Int) = ks[1]?.getD 0)) | _ => fun _ _ => False) mx rfl rfl ?_ (by repeat (first | exact trivial | refine ⟨rfl, ?_⟩)) (fun rg => ?_) (fun rg => ?_)
  ·
   rintro (_ | _ | _ | _ | _ | _ | _ | _ | _ | _ | _ | _ | i) I1_ I2_ v l h
   · exact h
   · exact h
   · exact h
   · exact h
   · exact h
   · exact h
   · exact h
   · exact h
   · exact h
   · exact h
   · exact h
   · exact h
   · exact h
  ·
   refine ⟨?_, ?_, ?_, ?_, ?_, ?_, ?_, ?_, ?_, ?_, ?_, ?_, trivial⟩
   ·
    intro is E2 I2_ hle_ hb hd kk_
    obtain ⟨hb1, hb2, hb6, -⟩ := hb
    replace hle := hle.trans hle_
    refine JJ.move rg rfl rfl hb6 (kk_ _ _ (.refl _) rfl)
   ·
    intro is E2 I2_ hle_ hb hd kk_
    obtain ⟨hb1, hb2, hb6, -⟩ := hb
    obtain ⟨d0, v0, e0, g0, s0⟩ := hd 0 (by decide)
    cases e0
    subst s0
    replace hle := hle.trans hle_
    refine JJ.indexAddr (a' := ⟨b2, 0, none⟩) eo133 rg rfl rfl g0 rfl (by omega) (by omega) rfl (kk_ _ _ (.refl _) rfl)
   ·
    intro is E2 I2_ hle_ hb hd kk_
    obtain ⟨hb1, hb2, hb6, -⟩ := hb
    obtain ⟨d1, v1, e1, g1, s1⟩ := hd 1 (by decide)
    cases e1
    subst s1
    replace hle := hle.trans hle_
    refine JJ.loadOwn (v := .int .i64 (ks[0]?.getD 0)) ty3 0 rg rfl rfl g1 rfl rfl (kk_ _ _ (.refl _) rfl)
   ·
    intro is E2 I2_ hle_ hb hd kk_
    obtain ⟨hb1, hb2, hb6, -⟩ := hb
    replace hle := hle.trans hle_
    refine JJ.move rg rfl rfl hb6 (kk_ _ _ (.refl _) rfl)
   ·
    intro is E2 I2_ hle_ hb hd kk_
    obtain ⟨hb1, hb2, hb6, -⟩ := hb
    obtain ⟨d3, v3, e3, g3, s3⟩ := hd 3 (by decide)
    cases e3
    subst s3
    replace hle := hle.trans hle_
    refine JJ.indexAddr (a' := ⟨b2, 0, none⟩) eo133 rg rfl rfl g3 rfl (by omega) (by omega) rfl (kk_ _ _ (.refl _) rfl)
   ·
    intro is E2 I2_ hle_ hb hd kk_
    obtain ⟨hb1, hb2, hb6, -⟩ := hb
    obtain ⟨d4, v4, e4, g4, s4⟩ := hd 4 (by decide)
    cases e4
    subst s4
    replace hle := hle.trans hle_
    refine JJ.loadOwn (v := .int .i64 (ks[0]?.getD 0)) ty3 0 rg rfl rfl g4 rfl rfl (kk_ _ _ (.refl _) rfl)
   ·
    intro is E2 I2_ hle_ hb hd kk_
    obtain ⟨hb1, hb2, hb6, -⟩ := hb
    replace hle := hle.trans hle_
    refine JJ.move rg rfl rfl hb6 (kk_ _ _ (.refl _) rfl)
   ·
    intro is E2 I2_ hle_ hb hd kk_
    obtain ⟨hb1, hb2, hb6, -⟩ := hb
    obtain ⟨d6, v6, e6, g6, s6⟩ := hd 6 (by decide)
    cases e6
    subst s6
    replace hle := hle.trans hle_
    refine JJ.indexAddr (a' := ⟨b2, 1, none⟩) eo133 rg rfl rfl g6 rfl (by omega) (by omega) rfl (kk_ _ _ (.refl _) rfl)
   ·
    intro is E2 I2_ hle_ hb hd kk_
    obtain ⟨hb1, hb2, hb6, -⟩ := hb
    obtain ⟨d7, v7, e7, g7, s7⟩ := hd 7 (by decide)
    cases e7
    subst s7
    replace hle := hle.trans hle_
    refine JJ.loadOwn (v := .int .i64 (ks[1]?.getD 0)) ty3 0 rg rfl rfl g7 rfl rfl (kk_ _ _ (.refl _) rfl)
   ·
    intro is E2 I2_ hle_ hb hd kk_
    obtain ⟨hb1, hb2, hb6, -⟩ := hb
    obtain ⟨d5, v5, e5, g5, s5⟩ := hd 5 (by decide)
    cases e5
    subst s5
    obtain ⟨d8, v8, e8, g8, s8⟩ := hd 8 (by decide)
    cases e8
    subst s8
    replace hle := hle.trans hle_
    refine JJ.bin rg rfl rfl g5 g8 rfl (kk_ _ _ (.refl _) rfl)
   ·
    intro is E2 I2_ hle_ hb hd kk_
    obtain ⟨hb1, hb2, hb6, -⟩ := hb
    obtain ⟨d0, v0, e0, g0, s0⟩ := hd 0 (by decide)
    cases e0
    subst s0
    obtain ⟨d1, v1, e1, g1, s1⟩ := hd 1 (by decide)
    cases e1
    subst s1
    obtain ⟨d2, v2, e2, g2, s2⟩ := hd 2 (by decide)
    cases e2
    subst s2
    replace hle := hle.trans hle_
    refine JJ.assign rg rfl rfl g2 (kk_ _ _ (.refl _) rfl)
   ·
    intro is E2 I2_ hle_ hb hd kk_
    obtain ⟨hb1, hb2, hb6, -⟩ := hb
    obtain ⟨d0, v0, e0, g0, s0⟩ := hd 0 (by decide)
    cases e0
    subst s0
    obtain ⟨d1, v1, e1, g1, s1⟩ := hd 1 (by decide)
    cases e1
    subst s1
    obtain ⟨d2, v2, e2, g2, s2⟩ := hd 2 (by decide)
    cases e2
    subst s2
    obtain ⟨d3, v3, e3, g3, s3⟩ := hd 3 (by decide)
    cases e3
    subst s3
    obtain ⟨d4, v4, e4, g4, s4⟩ := hd 4 (by decide)
    cases e4
    subst s4
    obtain ⟨d5, v5, e5, g5, s5⟩ := hd 5 (by decide)
    cases e5
    subst s5
    obtain ⟨d6, v6, e6, g6, s6⟩ := hd 6 (by decide)
    cases e6
    subst s6
    obtain ⟨d7, v7, e7, g7, s7⟩ := hd 7 (by decide)
    cases e7
    subst s7
    obtain ⟨d8, v8, e8, g8, s8⟩ := hd 8 (by decide)
    cases e8
    subst s8
    obtain ⟨d9, v9, e9, g9, s9⟩ := hd 9 (by decide)
    cases e9
    subst s9
    obtain ⟨d10, v10, e10, g10, s10⟩ := hd 10 (by decide)
    cases e10
    subst s10
    replace hle := hle.trans hle_
    refine JJ.assign rg rfl rfl g9 (kk_ _ _ (.refl _) rfl)
  intro vs I7 hle6 hs_
  obtain ⟨hv0, hv1, hv2, hv3, hv4, hv5, hv6, hv7, hv8, hv9, hv10, hv11, -⟩ := hs_
  replace hle := hle.trans hle6
  refine JJ.keep [(1, .func (.func g) fs.toArray caps.toArray), (2, .pointer (some ⟨b1, 0, none⟩)), (6, .slice (some ⟨b2, 0, none⟩) (2) (2)), (37, .slice (some ⟨b2, 0, none⟩) (2) (2)), (38, .pointer (some ⟨b2, 0, none⟩)), (39, .int .i64 (ks[0]?.getD 0)), (40, .slice (some ⟨b2, 0, none⟩) (2) (2)), (41, .pointer (some ⟨b2, 0, none⟩)), (42, .int .i64 (ks[0]?.getD 0)), (43, .slice (some ⟨b2, 0, none⟩) (2) (2)), (44, .pointer (some ⟨b2, 1, none⟩)), (45, .int .i64 (ks[1]?.getD 0)), (46, .bool (decide ((ks[0]?.getD 0 : Int) = ks[1]?.getD 0))), (11, .int .i64 (ks[0]?.getD 0)), (12, .bool (decide ((ks[0]?.getD 0 : Int) = ks[1]?.getD 0)))] ⟨rfl, rfl, rfl, congrArg some hv0, congrArg some hv1, congrArg some hv2, congrArg some hv3, congrArg some hv4, congrArg some hv5, congrArg some hv6, congrArg some hv7, congrArg some hv8, congrArg some hv9, congrArg some hv10, congrArg some hv11, trivial⟩ ?_
  refine JJ.regionEnd ?_
  refine JJ.seq ?_
  refine JJ.seq ?_
  refine JJ.region rfl fun rg => ?_
  refine JJ.fieldAddr (a' := ⟨b1, 0, none⟩) fo53_0 rg rfl rfl rfl rfl ?_
  refine JJ.loadL (v := .int .i64 (x.op)) ty3 1 rg rfl rfl rfl rfl rfl ?_
  refine JJ.regionEnd ?_
  refine JJ.block ?_
  refine JJ.seq ?_
  refine JJ.region rfl fun rg => ?_
  refine JJ.bin rg rfl rfl rfl rfl rfl ?_
  refine JJ.assign rg rfl rfl rfl ?_
  refine JJ.regionEnd ?_
  refine JJ.cond2 rfl (fun hc12 => ?_) (fun hc12 => ?_)
  ·
   have hc12b : (decide ((x.op : Int) = 1)) = true := hc12
   replace hc12 := of_decide_eq_true hc12
   refine JJ.seq ?_
   refine JJ.region rfl fun rg => ?_
   refine JJ.assign rg rfl rfl rfl ?_
   refine JJ.assign rg rfl rfl rfl ?_
   refine JJ.regionEnd ?_
   refine JJ.drop ?_
   refine JJ.drop ?_
   refine JJ.ret2 rfl Try.func71 rfl rfl rfl fun h q => ⟨(), trivial, ?_, q⟩
   have hres : x.ty kf = (1, 0) := by rw [Ex.ty_eq, hks, if_pos rfl]; unfold tyOp; dsimp only; simp [*]
   (rw [hres] <;> rfl)
  ·
   have hc12b : (decide ((x.op : Int) = 1)) = false := hc12
   replace hc12 := of_decide_eq_false hc12
   refine JJ.seq ?_
   refine JJ.region rfl fun rg => ?_
   refine JJ.bin rg rfl rfl rfl rfl rfl ?_
   refine JJ.assign rg rfl rfl rfl ?_
   refine JJ.regionEnd ?_
   refine JJ.cond2 rfl (fun hc14 => ?_) (fun hc14 => ?_)
   ·
    have hc14b : (decide ((x.op : Int) = 2)) = true := hc14
    replace hc14 := of_decide_eq_true hc14
    refine JJ.seq ?_
    refine JJ.region rfl fun rg => ?_
    refine JJ.assign rg rfl rfl rfl ?_
    refine JJ.assign rg rfl rfl rfl ?_
    refine JJ.regionEnd ?_
    refine JJ.drop ?_
    refine JJ.drop ?_
    refine JJ.ret2 rfl Try.func71 rfl rfl rfl fun h q => ⟨(), trivial, ?_, q⟩
    have hres : x.ty kf = (2, 0) := by rw [Ex.ty_eq, hks, if_pos rfl]; unfold tyOp; dsimp only; simp [*]
    (rw [hres] <;> rfl)
   ·
    have hc14b : (decide ((x.op : Int) = 2)) = false := hc14
    replace hc14 := of_decide_eq_false hc14
    refine JJ.seq ?_
    refine JJ.region rfl fun rg => ?_
    refine JJ.bin rg rfl rfl rfl rfl rfl ?_
    refine JJ.assign rg rfl rfl rfl ?_
    refine JJ.regionEnd ?_
    refine JJ.cond2 rfl (fun hc16 => ?_) (fun hc16 => ?_)
    ·
     have hc16b : (decide ((x.op : Int) = 3)) = true := hc16
     replace hc16 := of_decide_eq_true hc16
     refine JJ.seq ?_
     refine JJ.region rfl fun rg => ?_
     refine JJ.assign rg rfl rfl rfl ?_
     refine JJ.assign rg rfl rfl rfl ?_
     refine JJ.regionEnd ?_
     refine JJ.drop ?_
     refine JJ.drop ?_
     refine JJ.ret2 rfl Try.func71 rfl rfl rfl fun h q => ⟨(), trivial, ?_, q⟩
     have hres : x.ty kf = (3, 0) := by rw [Ex.ty_eq, hks, if_pos rfl]; unfold tyOp; dsimp only; simp [*]
     (rw [hres] <;> rfl)
    ·
     have hc16b : (decide ((x.op : Int) = 3)) = false := hc16
     replace hc16 := of_decide_eq_false hc16
     refine JJ.seq ?_
     refine JJ.region rfl fun rg => ?_
     refine JJ.bin rg rfl rfl rfl rfl rfl ?_
     refine JJ.assign rg rfl rfl rfl ?_
     refine JJ.regionEnd ?_
     refine JJ.cond2 rfl (fun hc18 => ?_) (fun hc18 => ?_)
     ·
      have hc18b : (decide ((x.op : Int) = 4)) = true := hc18
      replace hc18 := of_decide_eq_true hc18
      refine JJ.seq ?_
      refine JJ.seq ?_
      refine JJ.region rfl fun rg => ?_
      refine JJ.move rg rfl rfl rfl ?_
      refine JJ.fieldAddr (a' := ⟨b1, 2, none⟩) fo53_2 rg rfl rfl rfl rfl ?_
      refine JJ.loadL (v := .string (x.s)) ty9 1 rg rfl rfl rfl rfl rfl ?_
      (try dsimp only [List.set])
      refine JJ.call (Lc := [Rk]) (Lr := [_, _]) hg rg rfl rfl rfl rfl (hF _ hle x.s) (fun h q => Sat.rot (A := [_, _]) (B := [Rk]) q) fun _ I8 hle9 _ => ?_
      refine JJ.res (fun h q => Sat.rot (A := [Rk]) q) ?_
      dsimp only [List.cons_append, List.nil_append]
      replace hle := hle.trans hle9
      refine JJ.assign rg rfl rfl rfl ?_
      refine JJ.regionEnd ?_
      refine JJ.seq ?_
      refine JJ.region rfl fun rg => ?_
      refine JJ.move rg rfl rfl rfl ?_
      refine JJ.bin rg rfl rfl rfl rfl rfl ?_
      refine JJ.regionEnd ?_
      refine JJ.cond2 rfl (fun hc20 => ?_) (fun hc20 => ?_)
      ·
       have hc20b : (!decide ((kf x.s : Int) = 0)) = true := hc20
       replace hc20 := not_t hc20
       replace hc20b := hc20
       replace hc20 := of_decide_eq_false hc20
       refine JJ.seq ?_
       refine JJ.region rfl fun rg => ?_
       refine JJ.move rg rfl rfl rfl ?_
       refine JJ.assign rg rfl rfl rfl ?_
       refine JJ.assign rg rfl rfl rfl ?_
       refine JJ.regionEnd ?_
       refine JJ.drop ?_
       refine JJ.drop ?_
       refine JJ.ret2 rfl Try.func71 rfl rfl rfl fun h q => ⟨(), trivial, ?_, q⟩
       have hres : x.ty kf = (kf x.s, 0) := by rw [Ex.ty_eq, hks, if_pos rfl]; unfold tyOp; dsimp only; simp [*]
       (rw [hres] <;> rfl)
      ·
       have hc20b : (!decide ((kf x.s : Int) = 0)) = false := hc20
       replace hc20 := not_f hc20
       replace hc20b := hc20
       replace hc20 := of_decide_eq_true hc20
       refine JJ.skip ?_
       refine JJ.seq ?_
       refine JJ.region rfl fun rg => ?_
       refine JJ.assign rg rfl rfl rfl ?_
       refine JJ.assign rg rfl rfl rfl ?_
       refine JJ.regionEnd ?_
       refine JJ.drop ?_
       refine JJ.drop ?_
       refine JJ.ret2 rfl Try.func71 rfl rfl rfl fun h q => ⟨(), trivial, ?_, q⟩
       have hres : x.ty kf = (0, 9) := by rw [Ex.ty_eq, hks, if_pos rfl]; unfold tyOp; dsimp only; simp [*]
       (rw [hres] <;> rfl)
     ·
      have hc18b : (decide ((x.op : Int) = 4)) = false := hc18
      replace hc18 := of_decide_eq_false hc18
      refine JJ.seq ?_
      refine JJ.region rfl fun rg => ?_
      refine JJ.bin rg rfl rfl rfl rfl rfl ?_
      refine JJ.assign rg rfl rfl rfl ?_
      refine JJ.regionEnd ?_
      refine JJ.cond2 rfl (fun hc23 => ?_) (fun hc23 => ?_)
      ·
       have hc23b : (decide ((x.op : Int) = 5)) = true := hc23
       replace hc23 := of_decide_eq_true hc23
       refine JJ.seq ?_
       refine JJ.region rfl fun rg => ?_
       refine JJ.move rg rfl rfl rfl ?_
       refine JJ.bin rg rfl rfl rfl rfl rfl ?_
       refine JJ.callp bo82 rg rfl rfl rfl rfl (is_ _ (decide ((ks[0]?.getD 0 : Int) = 2)) (3)) fun _ I10 hle11 _ => ?_
       replace hle := hle.trans hle11
       refine JJ.extract rg rfl rfl rfl rfl ?_
       refine JJ.extract rg rfl rfl rfl rfl ?_
       refine JJ.assign rg rfl rfl rfl ?_
       refine JJ.assign rg rfl rfl rfl ?_
       refine JJ.regionEnd ?_
       refine JJ.drop ?_
       refine JJ.drop ?_
       refine JJ.ret2 rfl Try.func71 rfl rfl rfl fun h q => ⟨(), trivial, ?_, q⟩
       have hres : x.ty kf = ((isK (decide ((ks[0]?.getD 0 : Int) = 2)) (3)).1, (isK (decide ((ks[0]?.getD 0 : Int) = 2)) (3)).2) := by rw [Ex.ty_eq, hks, if_pos rfl]; unfold tyOp; dsimp only; simp [*]
       (rw [hres] <;> rfl)
      ·
       have hc23b : (decide ((x.op : Int) = 5)) = false := hc23
       replace hc23 := of_decide_eq_false hc23
       refine JJ.seq ?_
       refine JJ.region rfl fun rg => ?_
       refine JJ.bin rg rfl rfl rfl rfl rfl ?_
       refine JJ.assign rg rfl rfl rfl ?_
       refine JJ.regionEnd ?_
       refine JJ.cond2 rfl (fun hc25 => ?_) (fun hc25 => ?_)
       ·
        have hc25b : (decide ((x.op : Int) = 6)) = true := hc25
        replace hc25 := of_decide_eq_true hc25
        refine JJ.seq ?_
        refine JJ.region rfl fun rg => ?_
        refine JJ.move rg rfl rfl rfl ?_
        refine JJ.bin rg rfl rfl rfl rfl rfl ?_
        refine JJ.callp bo82 rg rfl rfl rfl rfl (is_ _ (decide ((ks[0]?.getD 0 : Int) = 2)) (1)) fun _ I12 hle13 _ => ?_
        replace hle := hle.trans hle13
        refine JJ.extract rg rfl rfl rfl rfl ?_
        refine JJ.extract rg rfl rfl rfl rfl ?_
        refine JJ.assign rg rfl rfl rfl ?_
        refine JJ.assign rg rfl rfl rfl ?_
        refine JJ.regionEnd ?_
        refine JJ.drop ?_
        refine JJ.drop ?_
        refine JJ.ret2 rfl Try.func71 rfl rfl rfl fun h q => ⟨(), trivial, ?_, q⟩
        have hres : x.ty kf = ((isK (decide ((ks[0]?.getD 0 : Int) = 2)) (1)).1, (isK (decide ((ks[0]?.getD 0 : Int) = 2)) (1)).2) := by rw [Ex.ty_eq, hks, if_pos rfl]; unfold tyOp; dsimp only; simp [*]
        (rw [hres] <;> rfl)
       ·
        have hc25b : (decide ((x.op : Int) = 6)) = false := hc25
        replace hc25 := of_decide_eq_false hc25
        refine JJ.seq ?_
        refine JJ.region rfl fun rg => ?_
        refine JJ.bin rg rfl rfl rfl rfl rfl ?_
        refine JJ.assign rg rfl rfl rfl ?_
        refine JJ.regionEnd ?_
        refine JJ.cond2 rfl (fun hc27 => ?_) (fun hc27 => ?_)
        ·
         have hc27b : (decide ((x.op : Int) = 7)) = true := hc27
         replace hc27 := of_decide_eq_true hc27
         refine JJ.seq ?_
         refine JJ.region rfl fun rg => ?_
         refine JJ.move rg rfl rfl rfl ?_
         refine JJ.bin rg rfl rfl rfl rfl rfl ?_
         refine JJ.callp bo82 rg rfl rfl rfl rfl (is_ _ (decide ((ks[0]?.getD 0 : Int) = 2)) (2)) fun _ I14 hle15 _ => ?_
         replace hle := hle.trans hle15
         refine JJ.extract rg rfl rfl rfl rfl ?_
         refine JJ.extract rg rfl rfl rfl rfl ?_
         refine JJ.assign rg rfl rfl rfl ?_
         refine JJ.assign rg rfl rfl rfl ?_
         refine JJ.regionEnd ?_
         refine JJ.drop ?_
         refine JJ.drop ?_
         refine JJ.ret2 rfl Try.func71 rfl rfl rfl fun h q => ⟨(), trivial, ?_, q⟩
         have hres : x.ty kf = ((isK (decide ((ks[0]?.getD 0 : Int) = 2)) (2)).1, (isK (decide ((ks[0]?.getD 0 : Int) = 2)) (2)).2) := by rw [Ex.ty_eq, hks, if_pos rfl]; unfold tyOp; dsimp only; simp [*]
         (rw [hres] <;> rfl)
        ·
         have hc27b : (decide ((x.op : Int) = 7)) = false := hc27
         replace hc27 := of_decide_eq_false hc27
         refine JJ.seq ?_
         refine JJ.region rfl fun rg => ?_
         refine JJ.bin rg rfl rfl rfl rfl rfl ?_
         refine JJ.assign rg rfl rfl rfl ?_
         refine JJ.regionEnd ?_
         refine JJ.cond2 rfl (fun hc29 => ?_) (fun hc29 => ?_)
         ·
          have hc29b : (decide ((x.op : Int) = 8)) = true := hc29
          replace hc29 := of_decide_eq_true hc29
          refine JJ.seq ?_
          refine JJ.region rfl fun rg => ?_
          refine JJ.move rg rfl rfl rfl ?_
          refine JJ.bin rg rfl rfl rfl rfl rfl ?_
          refine JJ.callp bo82 rg rfl rfl rfl rfl (is_ _ (decide ((ks[0]?.getD 0 : Int) = 3)) (3)) fun _ I16 hle17 _ => ?_
          replace hle := hle.trans hle17
          refine JJ.extract rg rfl rfl rfl rfl ?_
          refine JJ.extract rg rfl rfl rfl rfl ?_
          refine JJ.assign rg rfl rfl rfl ?_
          refine JJ.assign rg rfl rfl rfl ?_
          refine JJ.regionEnd ?_
          refine JJ.drop ?_
          refine JJ.drop ?_
          refine JJ.ret2 rfl Try.func71 rfl rfl rfl fun h q => ⟨(), trivial, ?_, q⟩
          have hres : x.ty kf = ((isK (decide ((ks[0]?.getD 0 : Int) = 3)) (3)).1, (isK (decide ((ks[0]?.getD 0 : Int) = 3)) (3)).2) := by rw [Ex.ty_eq, hks, if_pos rfl]; unfold tyOp; dsimp only; simp [*]
          (rw [hres] <;> rfl)
         ·
          have hc29b : (decide ((x.op : Int) = 8)) = false := hc29
          replace hc29 := of_decide_eq_false hc29
          refine JJ.seq ?_
          refine JJ.region rfl fun rg => ?_
          refine JJ.bin rg rfl rfl rfl rfl rfl ?_
          refine JJ.assign rg rfl rfl rfl ?_
          refine JJ.regionEnd ?_
          refine JJ.cond2 rfl (fun hc31 => ?_) (fun hc31 => ?_)
          ·
           have hc31b : (decide ((x.op : Int) = 9)) = true := hc31
           replace hc31 := of_decide_eq_true hc31
           refine JJ.seq ?_
           refine JJ.region rfl fun rg => ?_
           refine JJ.move rg rfl rfl rfl ?_
           refine JJ.move rg rfl rfl rfl ?_
           refine JJ.split 95 rfl (fun hg32_2 => ?_) (fun hg32_2 => ?_)
           ·
            have hg32_2b : (decide ((ks[0]?.getD 0 : Int) = ks[1]?.getD 0)) = true := hg32_2
            replace hg32_2 := of_decide_eq_true hg32_2
            refine JJ.move rg rfl rfl rfl ?_
            refine JJ.bin rg rfl rfl rfl rfl rfl ?_
            refine JJ.pick (b := true) rg rfl rfl rfl rfl ?_
            refine JJ.move rg rfl rfl rfl ?_
            refine JJ.callp bo82 rg rfl rfl rfl rfl (is_ _ (!decide ((ks[0]?.getD 0 : Int) = 3)) (ks[0]?.getD 0)) fun _ I18 hle19 _ => ?_
            replace hle := hle.trans hle19
            refine JJ.extract rg rfl rfl rfl rfl ?_
            refine JJ.extract rg rfl rfl rfl rfl ?_
            refine JJ.assign rg rfl rfl rfl ?_
            refine JJ.assign rg rfl rfl rfl ?_
            refine JJ.regionEnd ?_
            refine JJ.drop ?_
            refine JJ.drop ?_
            refine JJ.ret2 rfl Try.func71 rfl rfl rfl fun h q => ⟨(), trivial, ?_, q⟩
            have hres : x.ty kf = ((isK (!decide ((ks[0]?.getD 0 : Int) = 3)) (ks[0]?.getD 0)).1, (isK (!decide ((ks[0]?.getD 0 : Int) = 3)) (ks[0]?.getD 0)).2) := by rw [Ex.ty_eq, hks, if_pos rfl]; unfold tyOp; dsimp only; simp [*]
            (rw [hres] <;> rfl)
           ·
            have hg32_2b : (decide ((ks[0]?.getD 0 : Int) = ks[1]?.getD 0)) = false := hg32_2
            replace hg32_2 := of_decide_eq_false hg32_2
            refine JJ.gskip rg rfl rfl ?_
            refine JJ.gskip rg rfl rfl ?_
            refine JJ.pick (b := false) rg rfl rfl rfl rfl ?_
            refine JJ.move rg rfl rfl rfl ?_
            refine JJ.callp bo82 rg rfl rfl rfl rfl (is_ _ (false) (ks[0]?.getD 0)) fun _ I20 hle21 _ => ?_
            replace hle := hle.trans hle21
            refine JJ.extract rg rfl rfl rfl rfl ?_
            refine JJ.extract rg rfl rfl rfl rfl ?_
            refine JJ.assign rg rfl rfl rfl ?_
            refine JJ.assign rg rfl rfl rfl ?_
            refine JJ.regionEnd ?_
            refine JJ.drop ?_
            refine JJ.drop ?_
            refine JJ.ret2 rfl Try.func71 rfl rfl rfl fun h q => ⟨(), trivial, ?_, q⟩
            have hres : x.ty kf = ((isK (false) (ks[0]?.getD 0)).1, (isK (false) (ks[0]?.getD 0)).2) := by rw [Ex.ty_eq, hks, if_pos rfl]; unfold tyOp; dsimp only; simp [*]
            (rw [hres] <;> rfl)
          ·
           have hc31b : (decide ((x.op : Int) = 9)) = false := hc31
           replace hc31 := of_decide_eq_false hc31
           refine JJ.seq ?_
           refine JJ.region rfl fun rg => ?_
           refine JJ.bin rg rfl rfl rfl rfl rfl ?_
           refine JJ.assign rg rfl rfl rfl ?_
           refine JJ.regionEnd ?_
           refine JJ.cond2 rfl (fun hc33 => ?_) (fun hc33 => ?_)
           ·
            have hc33b : (decide ((x.op : Int) = 10)) = true := hc33
            replace hc33 := of_decide_eq_true hc33
            refine JJ.seq ?_
            refine JJ.region rfl fun rg => ?_
            refine JJ.move rg rfl rfl rfl ?_
            refine JJ.move rg rfl rfl rfl ?_
            refine JJ.split 106 rfl (fun hg34_2 => ?_) (fun hg34_2 => ?_)
            ·
             have hg34_2b : (decide ((ks[0]?.getD 0 : Int) = ks[1]?.getD 0)) = true := hg34_2
             replace hg34_2 := of_decide_eq_true hg34_2
             refine JJ.move rg rfl rfl rfl ?_
             refine JJ.bin rg rfl rfl rfl rfl rfl ?_
             refine JJ.pick (b := true) rg rfl rfl rfl rfl ?_
             refine JJ.callp bo82 rg rfl rfl rfl rfl (is_ _ (decide ((ks[0]?.getD 0 : Int) = 1)) (1)) fun _ I22 hle23 _ => ?_
             replace hle := hle.trans hle23
             refine JJ.extract rg rfl rfl rfl rfl ?_
             refine JJ.extract rg rfl rfl rfl rfl ?_
             refine JJ.assign rg rfl rfl rfl ?_
             refine JJ.assign rg rfl rfl rfl ?_
             refine JJ.regionEnd ?_
             refine JJ.drop ?_
             refine JJ.drop ?_
             refine JJ.ret2 rfl Try.func71 rfl rfl rfl fun h q => ⟨(), trivial, ?_, q⟩
             have hres : x.ty kf = ((isK (decide ((ks[0]?.getD 0 : Int) = 1)) (1)).1, (isK (decide ((ks[0]?.getD 0 : Int) = 1)) (1)).2) := by rw [Ex.ty_eq, hks, if_pos rfl]; unfold tyOp; dsimp only; simp [*]
             (rw [hres] <;> rfl)
            ·
             have hg34_2b : (decide ((ks[0]?.getD 0 : Int) = ks[1]?.getD 0)) = false := hg34_2
             replace hg34_2 := of_decide_eq_false hg34_2
             refine JJ.gskip rg rfl rfl ?_
             refine JJ.gskip rg rfl rfl ?_
             refine JJ.pick (b := false) rg rfl rfl rfl rfl ?_
             refine JJ.callp bo82 rg rfl rfl rfl rfl (is_ _ (false) (1)) fun _ I24 hle25 _ => ?_
             replace hle := hle.trans hle25
             refine JJ.extract rg rfl rfl rfl rfl ?_
             refine JJ.extract rg rfl rfl rfl rfl ?_
             refine JJ.assign rg rfl rfl rfl ?_
             refine JJ.assign rg rfl rfl rfl ?_
             refine JJ.regionEnd ?_
             refine JJ.drop ?_
             refine JJ.drop ?_
             refine JJ.ret2 rfl Try.func71 rfl rfl rfl fun h q => ⟨(), trivial, ?_, q⟩
             have hres : x.ty kf = ((isK (false) (1)).1, (isK (false) (1)).2) := by rw [Ex.ty_eq, hks, if_pos rfl]; unfold tyOp; dsimp only; simp [*]
             (rw [hres] <;> rfl)
           ·
            have hc33b : (decide ((x.op : Int) = 10)) = false := hc33
            replace hc33 := of_decide_eq_false hc33
            refine JJ.seq ?_
            refine JJ.region rfl fun rg => ?_
            refine JJ.bin rg rfl rfl rfl rfl rfl ?_
            refine JJ.assign rg rfl rfl rfl ?_
            refine JJ.regionEnd ?_
            refine JJ.cond2 rfl (fun hc35 => ?_) (fun hc35 => ?_)
            ·
             have hc35b : (decide ((x.op : Int) = 11)) = true := hc35
             replace hc35 := of_decide_eq_true hc35
             refine JJ.seq ?_
             refine JJ.region rfl fun rg => ?_
             refine JJ.move rg rfl rfl rfl ?_
             refine JJ.callp bo82 rg rfl rfl rfl rfl (is_ _ (decide ((ks[0]?.getD 0 : Int) = ks[1]?.getD 0)) (3)) fun _ I26 hle27 _ => ?_
             replace hle := hle.trans hle27
             refine JJ.extract rg rfl rfl rfl rfl ?_
             refine JJ.extract rg rfl rfl rfl rfl ?_
             refine JJ.assign rg rfl rfl rfl ?_
             refine JJ.assign rg rfl rfl rfl ?_
             refine JJ.regionEnd ?_
             refine JJ.drop ?_
             refine JJ.drop ?_
             refine JJ.ret2 rfl Try.func71 rfl rfl rfl fun h q => ⟨(), trivial, ?_, q⟩
             have hres : x.ty kf = ((isK (decide ((ks[0]?.getD 0 : Int) = ks[1]?.getD 0)) (3)).1, (isK (decide ((ks[0]?.getD 0 : Int) = ks[1]?.getD 0)) (3)).2) := by rw [Ex.ty_eq, hks, if_pos rfl]; unfold tyOp; dsimp only; simp [*]
             (rw [hres] <;> rfl)
            ·
             have hc35b : (decide ((x.op : Int) = 11)) = false := hc35
             replace hc35 := of_decide_eq_false hc35
             refine JJ.seq ?_
             refine JJ.region rfl fun rg => ?_
             refine JJ.bin rg rfl rfl rfl rfl rfl ?_
             refine JJ.assign rg rfl rfl rfl ?_
             refine JJ.regionEnd ?_
             refine JJ.cond2 rfl (fun hc37 => ?_) (fun hc37 => ?_)
             ·
              have hc37b : (decide ((x.op : Int) = 12)) = true := hc37
              replace hc37 := of_decide_eq_true hc37
              refine JJ.seq ?_
              refine JJ.region rfl fun rg => ?_
              refine JJ.move rg rfl rfl rfl ?_
              refine JJ.move rg rfl rfl rfl ?_
              refine JJ.split 122 rfl (fun hg38_2 => ?_) (fun hg38_2 => ?_)
              ·
               have hg38_2b : (decide ((ks[0]?.getD 0 : Int) = ks[1]?.getD 0)) = true := hg38_2
               replace hg38_2 := of_decide_eq_true hg38_2
               refine JJ.move rg rfl rfl rfl ?_
               refine JJ.bin rg rfl rfl rfl rfl rfl ?_
               refine JJ.pick (b := true) rg rfl rfl rfl rfl ?_
               refine JJ.callp bo82 rg rfl rfl rfl rfl (is_ _ (!decide ((ks[0]?.getD 0 : Int) = 3)) (3)) fun _ I28 hle29 _ => ?_
               replace hle := hle.trans hle29
               refine JJ.extract rg rfl rfl rfl rfl ?_
               refine JJ.extract rg rfl rfl rfl rfl ?_
               refine JJ.assign rg rfl rfl rfl ?_
               refine JJ.assign rg rfl rfl rfl ?_
               refine JJ.regionEnd ?_
               refine JJ.drop ?_
               refine JJ.drop ?_
               refine JJ.ret2 rfl Try.func71 rfl rfl rfl fun h q => ⟨(), trivial, ?_, q⟩
               have hres : x.ty kf = ((isK (!decide ((ks[0]?.getD 0 : Int) = 3)) (3)).1, (isK (!decide ((ks[0]?.getD 0 : Int) = 3)) (3)).2) := by rw [Ex.ty_eq, hks, if_pos rfl]; unfold tyOp; dsimp only; simp [*]
               (rw [hres] <;> rfl)
              ·
               have hg38_2b : (decide ((ks[0]?.getD 0 : Int) = ks[1]?.getD 0)) = false := hg38_2
               replace hg38_2 := of_decide_eq_false hg38_2
               refine JJ.gskip rg rfl rfl ?_
               refine JJ.gskip rg rfl rfl ?_
               refine JJ.pick (b := false) rg rfl rfl rfl rfl ?_
               refine JJ.callp bo82 rg rfl rfl rfl rfl (is_ _ (false) (3)) fun _ I30 hle31 _ => ?_
               replace hle := hle.trans hle31
               refine JJ.extract rg rfl rfl rfl rfl ?_
               refine JJ.extract rg rfl rfl rfl rfl ?_
               refine JJ.assign rg rfl rfl rfl ?_
               refine JJ.assign rg rfl rfl rfl ?_
               refine JJ.regionEnd ?_
               refine JJ.drop ?_
               refine JJ.drop ?_
               refine JJ.ret2 rfl Try.func71 rfl rfl rfl fun h q => ⟨(), trivial, ?_, q⟩
               have hres : x.ty kf = ((isK (false) (3)).1, (isK (false) (3)).2) := by rw [Ex.ty_eq, hks, if_pos rfl]; unfold tyOp; dsimp only; simp [*]
               (rw [hres] <;> rfl)
             ·
              have hc37b : (decide ((x.op : Int) = 12)) = false := hc37
              replace hc37 := of_decide_eq_false hc37
              refine JJ.skip ?_
              refine JJ.inBlock ?_
              refine JJ.seq ?_
              refine JJ.region rfl fun rg => ?_
              refine JJ.move rg rfl rfl rfl ?_
              refine JJ.move rg rfl rfl rfl ?_
              refine JJ.split 130 rfl (fun hg39_2 => ?_) (fun hg39_2 => ?_)
              ·
               have hg39_2b : (decide ((ks[0]?.getD 0 : Int) = ks[1]?.getD 0)) = true := hg39_2
               replace hg39_2 := of_decide_eq_true hg39_2
               refine JJ.move rg rfl rfl rfl ?_
               refine JJ.bin rg rfl rfl rfl rfl rfl ?_
               refine JJ.pick (b := true) rg rfl rfl rfl rfl ?_
               refine JJ.callp bo82 rg rfl rfl rfl rfl (is_ _ (decide ((ks[0]?.getD 0 : Int) = 3)) (3)) fun _ I32 hle33 _ => ?_
               replace hle := hle.trans hle33
               refine JJ.extract rg rfl rfl rfl rfl ?_
               refine JJ.extract rg rfl rfl rfl rfl ?_
               refine JJ.assign rg rfl rfl rfl ?_
               refine JJ.assign rg rfl rfl rfl ?_
               refine JJ.regionEnd ?_
               refine JJ.drop ?_
               refine JJ.drop ?_
               refine JJ.ret2 rfl Try.func71 rfl rfl rfl fun h q => ⟨(), trivial, ?_, q⟩
               have hres : x.ty kf = ((isK (decide ((ks[0]?.getD 0 : Int) = 3)) (3)).1, (isK (decide ((ks[0]?.getD 0 : Int) = 3)) (3)).2) := by rw [Ex.ty_eq, hks, if_pos rfl]; unfold tyOp; dsimp only; simp [*]
               (rw [hres] <;> rfl)
              ·
               have hg39_2b : (decide ((ks[0]?.getD 0 : Int) = ks[1]?.getD 0)) = false := hg39_2
               replace hg39_2 := of_decide_eq_false hg39_2
               refine JJ.gskip rg rfl rfl ?_
               refine JJ.gskip rg rfl rfl ?_
               refine JJ.pick (b := false) rg rfl rfl rfl rfl ?_
               refine JJ.callp bo82 rg rfl rfl rfl rfl (is_ _ (false) (3)) fun _ I34 hle35 _ => ?_
               replace hle := hle.trans hle35
               refine JJ.extract rg rfl rfl rfl rfl ?_
               refine JJ.extract rg rfl rfl rfl rfl ?_
               refine JJ.assign rg rfl rfl rfl ?_
               refine JJ.assign rg rfl rfl rfl ?_
               refine JJ.regionEnd ?_
               refine JJ.drop ?_
               refine JJ.drop ?_
               refine JJ.ret2 rfl Try.func71 rfl rfl rfl fun h q => ⟨(), trivial, ?_, q⟩
               have hres : x.ty kf = ((isK (false) (3)).1, (isK (false) (3)).2) := by rw [Ex.ty_eq, hks, if_pos rfl]; unfold tyOp; dsimp only; simp [*]
               (rw [hres] <;> rfl)
end Wj
end Go.Proofs.Ytlcdafeoionnhaa
