/- Walks of functions, printed by a program of this session (wip/tool/eng.py). -/
import Derived.Test.YtlcdafeoionnhaaProg
import Derived.Test.YtlcdafeoionnhaaEq
import Derived.Test.YtlcdafeoionnhaaWb
import Derived.Test.YtlcdafeoionnhaaWc
import Derived.Test.YtlcdafeoionnhaaWi
import Derived.Test.YtlcdafeoionnhaaWj
namespace Go.Proofs.Ytlcdafeoionnhaa
open Go
set_option linter.unusedVariables false
set_option linter.unusedSimpArgs false
namespace Wk
theorem bo40 : bodyOk Try.prog 40 = true := by kernel_rfl
theorem bo71 : bodyOk Try.prog 71 = true := by kernel_rfl
theorem bo72 : bodyOk Try.prog 72 = true := by kernel_rfl
theorem bo73 : bodyOk Try.prog 73 = true := by kernel_rfl
theorem eo33 : elemO Try.prog 33 = some (53, 4) := by kernel_rfl
theorem eo87 : elemO Try.prog 87 = some (85, 1) := by kernel_rfl
theorem fo35_0 : fieldO Try.prog 35 0 = some 0 := by kernel_rfl
theorem fo35_3 : fieldO Try.prog 35 3 = some 3 := by kernel_rfl
theorem fo89_0 : fieldO Try.prog 89 0 = some 0 := by kernel_rfl
theorem fo89_3 : fieldO Try.prog 89 3 = some 3 := by kernel_rfl
theorem mx : Try.prog.follows .mixedOrders = true := by kernel_rfl
theorem pt39 : pairT Try.prog 39 = true := by kernel_rfl
theorem sm85 : smapT Try.prog 85 = some 3 := by kernel_rfl
theorem so39 : structO Try.prog 39 = some [(0, 1), (1, 1)] := by kernel_rfl
theorem ss33 : isSliceT Try.prog 33 = true := by kernel_rfl
theorem ss87 : isSliceT Try.prog 87 = true := by kernel_rfl
theorem ty3 : tyI Try.prog 3 = some (false, 1) := by kernel_rfl
theorem ty33 : tyI Try.prog 33 = some (false, 1) := by kernel_rfl
theorem ty39 : tyI Try.prog 39 = some (true, 2) := by kernel_rfl
theorem ty53 : tyI Try.prog 53 = some (true, 4) := by kernel_rfl
theorem ty85 : tyI Try.prog 85 = some (false, 1) := by kernel_rfl
theorem ty87 : tyI Try.prog 87 = some (false, 1) := by kernel_rfl
theorem zo39 : zeroOf Try.prog 39 = some (.agg #[.int .i64 0, .int .i64 0]) := by kernel_rfl
theorem zo53 : zeroOf Try.prog 53 = some (.agg #[.int .i64 0, .int .i64 0, .string ⟨#[]⟩, .slice none 0 0]) := by kernel_rfl
open Wb Wc Wi Wj
/-- The checker in memory. -/
def ckR (b : Nat) (s : Ck) : HP := exR fun p : Option Addr × Nat × Nat => [blk b (.cells [Value.slice p.1 s.scope.length p.2.1, .map (some p.2.2), .int .i64 s.at_, .int .i64 s.fault.1, .int .i64 s.fault.2].toArray 89), scp 85 p.1 s.scope.length p.2.1 s.scope, mapR p.2.2 s.procs.toS]
theorem fail (I : Hp) (b : Nat) (s : Ck) (er at1 : Int) : Fn Try.prog 40 #[.pointer (some ⟨b, 0, none⟩), .int .i64 er, .int .i64 at1] I [ckR b s] (Ret (X := Unit) (fun _ _ => True) (fun _ => .tuple #[]) fun _ => [ckR b (s.fail er at1)]) := by
 refine Fn.of (args := [_, _, _]) Try.func40 rfl rfl ?_
 refine JJ.exOpen ?_
 rintro ⟨A, cp, pb⟩
 dsimp only [List.cons_append, List.nil_append]
 refine JJ.seq ?_
 refine JJ.region rfl fun rg => ?_
 refine JJ.move rg rfl rfl rfl ?_
 refine JJ.nilCheck rg rfl rfl rfl ?_
 refine JJ.fieldAddr (a' := ⟨b, 3, none⟩) fo89_3 rg rfl rfl rfl rfl ?_
 refine JJ.loadL (v := .agg #[.int .i64 (s.fault.1), .int .i64 (s.fault.2)]) ty39 0 rg rfl rfl rfl rfl rfl ?_
 refine JJ.build (cells := #[.int .i64 0, .int .i64 0]) zo39 so39 rg rfl rfl rfl rfl ?_
 refine JJ.eqPair pt39 rg rfl rfl rfl rfl ?_
 refine JJ.regionEnd ?_
 refine JJ.cond2 rfl (fun hc0 => ?_) (fun hc0 => ?_)
 ·
  have hc0b : (decide ((s.fault.1, s.fault.2) = ((0, 0) : Int × Int))) = true := hc0
  replace hc0 := of_decide_eq_true hc0
  have hf : s.fail er at1 = { s with fault := (er, at1) } := if_pos hc0
  refine JJ.region rfl fun rg => ?_
  refine JJ.move rg rfl rfl rfl ?_
  refine JJ.move rg rfl rfl rfl ?_
  refine JJ.move rg rfl rfl rfl ?_
  refine JJ.build (cells := #[.int .i64 (er), .int .i64 (at1)]) zo39 so39 rg rfl rfl rfl rfl ?_
  refine JJ.nilCheck rg rfl rfl rfl ?_
  refine JJ.fieldAddr (a' := ⟨b, 3, none⟩) fo89_3 rg rfl rfl rfl rfl ?_
  refine JJ.store (cs' := [.slice (A) (s.scope.length) (cp), .map (some pb), .int .i64 (s.at_), .int .i64 (er), .int .i64 (at1)]) ty39 0 rg rfl rfl rfl rfl rfl rfl rfl rfl rfl rfl rfl ?_
  refine JJ.regionEnd ?_
  (try dsimp only [List.set])
  exact JJ.end0 rfl Try.func40 rfl (fun h q => ⟨(), trivial, rfl, by rw [hf]; exact Sat.close (L := []) (A, cp, pb) q⟩)
 ·
  have hc0b : (decide ((s.fault.1, s.fault.2) = ((0, 0) : Int × Int))) = false := hc0
  replace hc0 := of_decide_eq_false hc0
  have hf : s.fail er at1 = s := if_neg hc0
  refine JJ.skip ?_
  (try dsimp only [List.set])
  exact JJ.end0 rfl Try.func40 rfl (fun h q => ⟨(), trivial, rfl, by rw [hf]; exact Sat.close (L := []) (A, cp, pb) q⟩)
theorem exprs_step {op at1 : Int} : ∀ {l : List Ex} {i i0 : Nat} {d : Ex} {s s' : Ck} {q0 q : Int}, l[i]? = some d → s.exprs op at1 i0 q0 (l.take i) = (s', q) → s.exprs op at1 i0 q0 (l.take (i + 1)) = (s'.expr1 op (i0 + i : Nat) at1 d, (d.ty s'.kf).1)
  | [], i, _, d, _, _, _, _, h, _ => by simp at h
  | a :: l, 0, i0, d, s, s', q0, q, h, k => by
    simp at h; subst h
    simp only [List.take_zero, Ck.exprs, Prod.mk.injEq] at k
    obtain ⟨rfl, rfl⟩ := k
    simp [Ck.exprs]
  | a :: l, i + 1, i0, d, s, s', q0, q, h, k => by
    simp only [List.take_succ_cons, Ck.exprs] at k ⊢
    have := exprs_step (i := i) (d := d) (by simpa using h) k
    rw [this]
    have e : i0 + 1 + i = i0 + (i + 1) := by omega
    rw [e]
theorem fail_scope (s : Ck) (a b : Int) : (s.fail a b).scope = s.scope := by unfold Ck.fail; split <;> rfl
theorem expr1_scope (s : Ck) (a b c : Int) (x : Ex) : (s.expr1 a b c x).scope = s.scope := by
  unfold Ck.expr1
  split
  · split
    · rfl
    · exact fail_scope _ _ _
  · exact fail_scope _ _ _
theorem exprs (k : Nat) (I : Hp) (cs : List Value) (x : St) (b : Nat) (s : Ck) (at1 : Int) (hre : RS k I cs x) (hok : Ex.okl x.e 8 = true) (hz : x.sz ≤ 4294967296) (hsc : s.scope.length ≤ 4294967296) : Fn Try.prog 55 #[.pointer (some ⟨b, 0, none⟩), .agg cs.toArray, .int .i64 at1] I [ckR b s] (Ret (X := Unit) (fun _ _ => True) (fun _ => .int .i64 (s.exprs x.op at1 0 0 x.e).2) fun _ => [ckR b (s.exprs x.op at1 0 0 x.e).1]) := by
 obtain ⟨A0, m, cp0, A1, m1, cp1, A2, m2, cp2, rfl, hx, hx1, hx2⟩ := RS.open hre
 obtain rfl := hx.1
 have hll := Ex.szl_len x.e
 have hz1 := x.sz_eq
 rw [Ex.okl_all] at hok
 refine Fn.of (args := [_, _, _]) Try.func55 rfl rfl ?_
 refine JJ.seq ?_
 refine JJ.region rfl fun rg => ?_
 refine JJ.box (cs := [.int .i64 (x.op), .string (x.s), .int .i64 (x.n), .slice (A0) (x.e.length) (cp0), .slice (A1) (m1) (cp1), .slice (A2) (m2) (cp2), .bool (x.commit)]) rg rfl rfl rfl rfl fun b1 => ?_
 refine JJ.assign rg rfl rfl rfl ?_
 refine JJ.regionEnd ?_
 refine JJ.seq ?_
 refine JJ.region rfl fun rg => ?_
 refine JJ.assign rg rfl rfl rfl ?_
 refine JJ.regionEnd ?_
 refine JJ.seq ?_
 refine JJ.seq ?_
 refine JJ.region rfl fun rg => ?_
 refine JJ.fieldAddr (a' := ⟨b1, 3, none⟩) fo35_3 rg rfl rfl rfl rfl ?_
 refine JJ.loadL (v := .slice (A0) (x.e.length) (cp0)) ty33 0 rg rfl rfl rfl rfl rfl ?_
 refine JJ.lenSlice ss33 rg rfl rfl rfl ?_
 refine JJ.move rg rfl rfl rfl ?_
 refine JJ.regionEnd ?_
 refine JJ.block ?_
 refine JJ.induct (X := Nat × Hp × Ck × Int) (fun z => [(0, .pointer (some ⟨b, 0, none⟩)), (2, .int .i64 at1), (4, .pointer (some ⟨b1, 0, none⟩)), (7, .int .i64 z.2.2.2), (13, .slice A0 x.e.length cp0), (14, .int .i64 x.e.length), (15, .int .i64 z.1)]) (fun z => z.2.1) (fun z => [blk b1 (.cells ([.int .i64 (x.op), .string (x.s), .int .i64 (x.n), .slice (A0) (x.e.length) (cp0), .slice (A1) (m1) (cp1), .slice (A2) (m2) (cp2), .bool (x.commit)]).toArray 35), ckR b z.2.2.1])
  (fun z => z.1 ≤ x.e.length ∧ Hp.le I z.2.1 ∧ z.2.2.1.scope.length ≤ 4294967296 ∧ s.exprs x.op at1 0 0 (x.e.take z.1) = (z.2.2.1, z.2.2.2)) (fun z => x.e.length - z.1) (0, I, s, 0) ⟨Nat.zero_le _, .refl _, hsc, rfl⟩ (fun h => JJ.keep _ (by repeat (first | exact trivial | refine ⟨rfl, ?_⟩)) h) ?_
 rintro ⟨i, I1, s1, q1⟩ ⟨hi, hle, hsc1, hex⟩ ih
 dsimp only at hi hle hsc1 hex ih ⊢
 refine JJ.seq ?_
 refine JJ.region rfl fun rg => ?_
 refine JJ.bin rg rfl rfl rfl rfl rfl ?_
 refine JJ.regionEnd ?_
 refine JJ.seq ?_
 refine JJ.cond2 rfl (fun hc3 => ?_) (fun hc3 => ?_)
 ·
  have hc3b : (decide ((((i : Nat) : Int) : Int) < ((x.e.length : Nat) : Int))) = true := hc3
  replace hc3 := of_decide_eq_true hc3
  have hlt : i < x.e.length := by omega
  obtain ⟨d, hd⟩ : ∃ d, x.e[i]? = some d := ⟨_, List.getElem?_eq_getElem hlt⟩
  have hst := exprs_step hd hex
  rw [Nat.zero_add] at hst
  have hdk := List.all_eq_true.1 hok d (List.mem_of_getElem? hd)
  refine JJ.skip ?_
  refine JJ.seq ?_
  refine JJ.block ?_
  refine JJ.seq ?_
  refine JJ.region rfl fun rg => ?_
  refine JJ.move rg rfl rfl rfl ?_
  obtain ⟨aa, cs1, hA, hcap, hcl, hre1, hrow⟩ := RSl.get (REs.mono hx hle) hd
  cases hA
  refine JJ.indexAddr (a' := aa.add (i * 4)) eo33 rg rfl rfl rfl rfl (by omega) (by omega) rfl ?_
  refine JJ.loadI (v := .agg (cs1).toArray) ty53 rg rfl rfl rfl hrow (ldV_all hcl) ?_
  refine JJ.alloc (cs := [.int .i64 0, .int .i64 0, .string (⟨#[]⟩), .slice (none) (0) (0)]) zo53 rfl rg rfl rfl fun b2 => ?_
  refine JJ.assign rg rfl rfl rfl ?_
  refine JJ.store (cs' := cs1) ty53 0 rg rfl rfl rfl rfl rfl rfl (by simp [hcl]) (by simpa using hre1.one) (by simp [hcl]) (stC_all (by simp [hcl])) rfl ?_
  refine JJ.regionEnd ?_
  refine JJ.seq ?_
  refine JJ.pull 2 rfl rfl ?_
  refine JJ.exOpen ?_
  rintro ⟨A, cp, pb⟩
  dsimp only [List.cons_append, List.nil_append]
  refine JJ.draw (m := 12) [(0, .pointer (some ⟨b, 0, none⟩)), (2, .int .i64 (at1)), (4, .pointer (some ⟨b1, 0, none⟩)), (7, .int .i64 (q1)), (8, .int .i64 (((i : Nat) : Int))), (9, .pointer (some ⟨b2, 0, none⟩)), (13, .slice (some aa) (x.e.length) (cp0)), (14, .int .i64 (((x.e.length : Nat) : Int))), (15, .int .i64 (((i : Nat) : Int))), (16, .bool (decide ((((i : Nat) : Int) : Int) < ((x.e.length : Nat) : Int)))), (17, .int .i64 (((i : Nat) : Int))), (18, .pointer (some (aa.add (i * 4)))), (19, .agg (cs1).toArray)]
   (fun i => match i with | 0 => fun _ v => v = .agg (cs1).toArray | 1 => fun _ v => v = .pointer (some ⟨b, 0, none⟩) | 2 => fun _ v => v = .pointer (some ⟨b, 0, none⟩) | 3 => fun _ v => v = .pointer (some ⟨b, 0, none⟩) | 4 => fun _ v => v = .slice (A) (s1.scope.length) (cp) | 5 => fun _ v => v = .func (.func 72) [.slice (A) (s1.scope.length) (cp)].toArray [].toArray | 6 => fun I v => ∃ p : Unit, v = .tuple #[.int .i64 (d.ty s1.kf).1, .int .i64 (d.ty s1.kf).2] ∧ True | 7 => fun _ v => v = .tuple #[.int .i64 ((d.ty s1.kf).1), .int .i64 ((d.ty s1.kf).2)] | 8 => fun _ v => v = .int .i64 ((d.ty s1.kf).1) | 9 => fun _ v => v = .int .i64 ((d.ty s1.kf).2) | 10 => fun _ v => v = .int .i64 ((d.ty s1.kf).1) | 11 => fun _ v => v = .int .i64 ((d.ty s1.kf).2) | _ => fun _ _ => False) mx rfl rfl ?_ (by repeat (first | exact trivial | refine ⟨rfl, ?_⟩)) (fun rg => ?_) (fun rg => ?_)
  ·
   rintro (_ | _ | _ | _ | _ | _ | _ | _ | _ | _ | _ | _ | i) I1_ I2_ v l h
   · exact h
   · exact h
   · exact h
   · exact h
   · exact h
   · exact h
   · obtain ⟨p, h1, h0⟩ := h; exact ⟨p, h1, trivial⟩
   · exact h
   · exact h
   · exact h
   · exact h
   · exact h
   · exact h
  ·
   refine ⟨?_, ?_, ?_, ?_, ?_, ?_, ?_, ?_, ?_, ?_, ?_, ?_, trivial⟩
   ·
    intro is E2 I2_ hle_ hb hd kk_
    obtain ⟨hb0, hb2, hb4, hb7, hb8, hb9, hb13, hb14, hb15, hb16, hb17, hb18, hb19, -⟩ := hb
    replace hre1 := hre1.mono hle_
    replace hle := hle.trans hle_
    refine JJ.loadL (v := .agg (cs1).toArray) ty53 3 rg rfl rfl hb9 rfl (ldV_all hcl) (kk_ _ _ (.refl _) rfl)
   ·
    intro is E2 I2_ hle_ hb hd kk_
    obtain ⟨hb0, hb2, hb4, hb7, hb8, hb9, hb13, hb14, hb15, hb16, hb17, hb18, hb19, -⟩ := hb
    replace hre1 := hre1.mono hle_
    replace hle := hle.trans hle_
    refine JJ.move rg rfl rfl hb0 (kk_ _ _ (.refl _) rfl)
   ·
    intro is E2 I2_ hle_ hb hd kk_
    obtain ⟨hb0, hb2, hb4, hb7, hb8, hb9, hb13, hb14, hb15, hb16, hb17, hb18, hb19, -⟩ := hb
    obtain ⟨d1, v1, e1, g1, s1⟩ := hd 1 (by decide)
    cases e1
    subst s1
    replace hre1 := hre1.mono hle_
    replace hle := hle.trans hle_
    refine JJ.nilCheck rg rfl rfl g1 (kk_ _ _ (.refl _) rfl)
   ·
    intro is E2 I2_ hle_ hb hd kk_
    obtain ⟨hb0, hb2, hb4, hb7, hb8, hb9, hb13, hb14, hb15, hb16, hb17, hb18, hb19, -⟩ := hb
    obtain ⟨d2, v2, e2, g2, s2⟩ := hd 2 (by decide)
    cases e2
    subst s2
    replace hre1 := hre1.mono hle_
    replace hle := hle.trans hle_
    refine JJ.fieldAddr (a' := ⟨b, 0, none⟩) fo89_0 rg rfl rfl g2 rfl (kk_ _ _ (.refl _) rfl)
   ·
    intro is E2 I2_ hle_ hb hd kk_
    obtain ⟨hb0, hb2, hb4, hb7, hb8, hb9, hb13, hb14, hb15, hb16, hb17, hb18, hb19, -⟩ := hb
    obtain ⟨d3, v3, e3, g3, s3⟩ := hd 3 (by decide)
    cases e3
    subst s3
    replace hre1 := hre1.mono hle_
    replace hle := hle.trans hle_
    refine JJ.loadL (v := .slice (A) (s1.scope.length) (cp)) ty87 0 rg rfl rfl g3 rfl rfl (kk_ _ _ (.refl _) rfl)
   ·
    intro is E2 I2_ hle_ hb hd kk_
    obtain ⟨hb0, hb2, hb4, hb7, hb8, hb9, hb13, hb14, hb15, hb16, hb17, hb18, hb19, -⟩ := hb
    obtain ⟨d4, v4, e4, g4, s4⟩ := hd 4 (by decide)
    cases e4
    subst s4
    replace hre1 := hre1.mono hle_
    replace hle := hle.trans hle_
    refine JJ.makeFunc rg rfl rfl [.slice (A) (s1.scope.length) (cp)].toArray [].toArray (fun a hE => by simp [hE.ev (o := .tmp 25) (v := .slice (A) (s1.scope.length) (cp)) g4]) (fun a hE => by simp []) (kk_ _ _ (.refl _) rfl)
   ·
    intro is E2 I2_ hle_ hb hd kk_
    obtain ⟨hb0, hb2, hb4, hb7, hb8, hb9, hb13, hb14, hb15, hb16, hb17, hb18, hb19, -⟩ := hb
    obtain ⟨d0, v0, e0, g0, s0⟩ := hd 0 (by decide)
    cases e0
    subst s0
    obtain ⟨d5, v5, e5, g5, s5⟩ := hd 5 (by decide)
    cases e5
    subst s5
    replace hre1 := hre1.mono hle_
    replace hle := hle.trans hle_
    (try dsimp only [List.set])
    refine JJ.call (Lr := [_, _, _, _]) bo71 rg rfl rfl rfl (evL_cons g0 (evL_cons g5 rfl)) (of_ (k - 1) _ cs1 d 8 s1.kf 72 [.slice A s1.scope.length cp] [] (scp 85 A s1.scope.length cp s1.scope) hre1 hdk bo72 (fun I1 l ss => kind I1 A s1.scope.length cp s1.scope ss hsc1)) (fun h q => q.pull 1 rfl) fun _ I3 hle4 _ => ?_
    exact JJ.res (h := kk_ _ _ hle4 ⟨(), rfl, trivial⟩) (k := fun h q => Sat.put (L := [_, (fun _ => True), _, _, _]) 1 (by simp only [List.length_cons]; omega) q)
   ·
    intro is E2 I2_ hle_ hb hd kk_
    obtain ⟨hb0, hb2, hb4, hb7, hb8, hb9, hb13, hb14, hb15, hb16, hb17, hb18, hb19, -⟩ := hb
    obtain ⟨d6, v6, e6, g6, s6⟩ := hd 6 (by decide)
    cases e6
    obtain ⟨_, rfl, _⟩ := s6
    replace hre1 := hre1.mono hle_
    replace hle := hle.trans hle_
    refine JJ.move rg rfl rfl g6 (kk_ _ _ (.refl _) rfl)
   ·
    intro is E2 I2_ hle_ hb hd kk_
    obtain ⟨hb0, hb2, hb4, hb7, hb8, hb9, hb13, hb14, hb15, hb16, hb17, hb18, hb19, -⟩ := hb
    obtain ⟨d7, v7, e7, g7, s7⟩ := hd 7 (by decide)
    cases e7
    subst s7
    replace hre1 := hre1.mono hle_
    replace hle := hle.trans hle_
    refine JJ.extract rg rfl rfl g7 rfl (kk_ _ _ (.refl _) rfl)
   ·
    intro is E2 I2_ hle_ hb hd kk_
    obtain ⟨hb0, hb2, hb4, hb7, hb8, hb9, hb13, hb14, hb15, hb16, hb17, hb18, hb19, -⟩ := hb
    obtain ⟨d7, v7, e7, g7, s7⟩ := hd 7 (by decide)
    cases e7
    subst s7
    replace hre1 := hre1.mono hle_
    replace hle := hle.trans hle_
    refine JJ.extract rg rfl rfl g7 rfl (kk_ _ _ (.refl _) rfl)
   ·
    intro is E2 I2_ hle_ hb hd kk_
    obtain ⟨hb0, hb2, hb4, hb7, hb8, hb9, hb13, hb14, hb15, hb16, hb17, hb18, hb19, -⟩ := hb
    obtain ⟨d0, v0, e0, g0, s0⟩ := hd 0 (by decide)
    cases e0
    subst s0
    obtain ⟨d1, v1, e1, g1, s1⟩ := hd 1 (by decide)
    cases e1
    subst s1
    obtain ⟨d2, v2, e2, g2, s2⟩ := hd 2 (by decide)
    cases e2
    subst s2
    obtain ⟨d3, v3, e3, g3, s3⟩ := hd 3 (by decide)
    cases e3
    subst s3
    obtain ⟨d4, v4, e4, g4, s4⟩ := hd 4 (by decide)
    cases e4
    subst s4
    obtain ⟨d5, v5, e5, g5, s5⟩ := hd 5 (by decide)
    cases e5
    subst s5
    obtain ⟨d6, v6, e6, g6, s6⟩ := hd 6 (by decide)
    cases e6
    obtain ⟨_, rfl, _⟩ := s6
    obtain ⟨d7, v7, e7, g7, s7⟩ := hd 7 (by decide)
    cases e7
    subst s7
    obtain ⟨d8, v8, e8, g8, s8⟩ := hd 8 (by decide)
    cases e8
    subst s8
    replace hre1 := hre1.mono hle_
    replace hle := hle.trans hle_
    refine JJ.assign rg rfl rfl g8 (kk_ _ _ (.refl _) rfl)
   ·
    intro is E2 I2_ hle_ hb hd kk_
    obtain ⟨hb0, hb2, hb4, hb7, hb8, hb9, hb13, hb14, hb15, hb16, hb17, hb18, hb19, -⟩ := hb
    obtain ⟨d0, v0, e0, g0, s0⟩ := hd 0 (by decide)
    cases e0
    subst s0
    obtain ⟨d1, v1, e1, g1, s1⟩ := hd 1 (by decide)
    cases e1
    subst s1
    obtain ⟨d2, v2, e2, g2, s2⟩ := hd 2 (by decide)
    cases e2
    subst s2
    obtain ⟨d3, v3, e3, g3, s3⟩ := hd 3 (by decide)
    cases e3
    subst s3
    obtain ⟨d4, v4, e4, g4, s4⟩ := hd 4 (by decide)
    cases e4
    subst s4
    obtain ⟨d5, v5, e5, g5, s5⟩ := hd 5 (by decide)
    cases e5
    subst s5
    obtain ⟨d6, v6, e6, g6, s6⟩ := hd 6 (by decide)
    cases e6
    obtain ⟨_, rfl, _⟩ := s6
    obtain ⟨d7, v7, e7, g7, s7⟩ := hd 7 (by decide)
    cases e7
    subst s7
    obtain ⟨d8, v8, e8, g8, s8⟩ := hd 8 (by decide)
    cases e8
    subst s8
    obtain ⟨d9, v9, e9, g9, s9⟩ := hd 9 (by decide)
    cases e9
    subst s9
    obtain ⟨d10, v10, e10, g10, s10⟩ := hd 10 (by decide)
    cases e10
    subst s10
    replace hre1 := hre1.mono hle_
    replace hle := hle.trans hle_
    refine JJ.assign rg rfl rfl g9 (kk_ _ _ (.refl _) rfl)
  intro vs I6 hle5 hs_
  obtain ⟨hv0, hv1, hv2, hv3, hv4, hv5, hv6, hv7, hv8, hv9, hv10, hv11, -⟩ := hs_
  replace hre1 := hre1.mono hle5
  replace hle := hle.trans hle5
  obtain ⟨_, hv6, _⟩ := hv6
  refine JJ.keep [(0, .pointer (some ⟨b, 0, none⟩)), (2, .int .i64 (at1)), (4, .pointer (some ⟨b1, 0, none⟩)), (7, .int .i64 (q1)), (13, .slice (some aa) (x.e.length) (cp0)), (14, .int .i64 (((x.e.length : Nat) : Int))), (15, .int .i64 (((i : Nat) : Int))), (16, .bool (decide ((((i : Nat) : Int) : Int) < ((x.e.length : Nat) : Int)))), (17, .int .i64 (((i : Nat) : Int))), (18, .pointer (some (aa.add (i * 4)))), (19, .agg (cs1).toArray), (9, .pointer (some ⟨b2, 0, none⟩)), (8, .int .i64 (((i : Nat) : Int))), (21, .agg (cs1).toArray), (22, .pointer (some ⟨b, 0, none⟩)), (23, .pointer (some ⟨b, 0, none⟩)), (24, .pointer (some ⟨b, 0, none⟩)), (25, .slice (A) (s1.scope.length) (cp)), (26, .func (.func 72) [.slice (A) (s1.scope.length) (cp)].toArray [].toArray), (27, .tuple #[.int .i64 ((d.ty s1.kf).1), .int .i64 ((d.ty s1.kf).2)]), (20, .tuple #[.int .i64 ((d.ty s1.kf).1), .int .i64 ((d.ty s1.kf).2)]), (28, .int .i64 ((d.ty s1.kf).1)), (29, .int .i64 ((d.ty s1.kf).2)), (10, .int .i64 ((d.ty s1.kf).1)), (11, .int .i64 ((d.ty s1.kf).2))] ⟨rfl, rfl, rfl, rfl, rfl, rfl, rfl, rfl, rfl, rfl, rfl, rfl, rfl, congrArg some hv0, congrArg some hv1, congrArg some hv2, congrArg some hv3, congrArg some hv4, congrArg some hv5, congrArg some hv6, congrArg some hv7, congrArg some hv8, congrArg some hv9, congrArg some hv10, congrArg some hv11, trivial⟩ ?_
  refine JJ.regionEnd ?_
  refine JJ.res (fun h q => Sat.close (P := fun p : Option Addr × Nat × Nat => [blk b (.cells [Value.slice p.1 s1.scope.length p.2.1, .map (some p.2.2), .int .i64 s1.at_, .int .i64 s1.fault.1, .int .i64 s1.fault.2].toArray 89), scp 85 p.1 s1.scope.length p.2.1 s1.scope, mapR p.2.2 s1.procs.toS]) (A, cp, pb) q) ?_
  change JJ _ _ _ _ _ [ckR b s1, _, _]
  refine JJ.seq ?_
  refine JJ.seq ?_
  refine JJ.region rfl fun rg => ?_
  refine JJ.move rg rfl rfl rfl ?_
  refine JJ.bin rg rfl rfl rfl rfl rfl ?_
  refine JJ.regionEnd ?_
  refine JJ.cond2 rfl (fun hc6 => ?_) (fun hc6 => ?_)
  ·
   have hc6b : (!decide (((d.ty s1.kf).2 : Int) = 0)) = true := hc6
   replace hc6 := not_t hc6
   replace hc6b := hc6
   replace hc6 := of_decide_eq_false hc6
   refine JJ.region rfl fun rg => ?_
   refine JJ.move rg rfl rfl rfl ?_
   refine JJ.move rg rfl rfl rfl ?_
   refine JJ.move rg rfl rfl rfl ?_
   (try dsimp only [List.set])
   refine JJ.call (Lr := [_, _]) bo40 rg rfl rfl rfl rfl (fail _ b (s1) ((d.ty s1.kf).2) (at1)) (fun h q => q.pull 0 rfl) fun _ I7 hle8 _ => ?_
   (try dsimp only [List.set, List.cons_append, List.nil_append])
   replace hre1 := hre1.mono hle8
   replace hle := hle.trans hle8
   refine JJ.regionEnd ?_
   refine JJ.region rfl fun rg => ?_
   refine JJ.move rg rfl rfl rfl ?_
   refine JJ.assign rg rfl rfl rfl ?_
   refine JJ.regionEnd ?_
   refine JJ.inBlock ?_
   refine JJ.region rfl fun rg => ?_
   refine JJ.binI (z := ((i + 1 : Nat) : Int)) rg rfl rfl rfl rfl rfl (wrap_to (by omega) (by omega) (by omega)) ?_
   refine JJ.move rg rfl rfl rfl ?_
   refine JJ.regionEnd ?_
   refine JJ.pull 1 rfl rfl ?_
   refine JJ.drop ?_
   refine JJ.pull 1 rfl rfl ?_
   have he : s1.expr1 x.op ((i : Nat) : Int) at1 d = (Ck.fail (s1) ((d.ty s1.kf).2) (at1)) := by unfold Ck.expr1; simp [*]
   refine JJ.res (L' := [_, ckR b (s1.expr1 x.op ((i : Nat) : Int) at1 d)]) (fun h q => by rw [he]; exact q) ?_
   refine JJ.keep _ ?_ (ih (i + 1, _, s1.expr1 x.op ((i : Nat) : Int) at1 d, (d.ty s1.kf).1) ⟨hlt, hle, by rw [expr1_scope]; exact hsc1, hst⟩ (by dsimp only; omega))
   repeat (first | exact trivial | refine ⟨rfl, ?_⟩)
  ·
   have hc6b : (!decide (((d.ty s1.kf).2 : Int) = 0)) = false := hc6
   replace hc6 := not_f hc6
   replace hc6b := hc6
   replace hc6 := of_decide_eq_true hc6
   refine JJ.seq ?_
   refine JJ.region rfl fun rg => ?_
   refine JJ.fieldAddr (a' := ⟨b1, 0, none⟩) fo35_0 rg rfl rfl rfl rfl ?_
   refine JJ.loadL (v := .int .i64 (x.op)) ty3 2 rg rfl rfl rfl rfl rfl ?_
   refine JJ.move rg rfl rfl rfl ?_
   refine JJ.move rg rfl rfl rfl ?_
   refine JJ.callp bo73 rg rfl rfl rfl rfl (Wi.wants _ (x.op) (((i : Nat) : Int)) ((d.ty s1.kf).1)) fun _ I9 hle10 _ => ?_
   replace hre1 := hre1.mono hle10
   replace hle := hle.trans hle10
   refine JJ.not rg rfl rfl rfl ?_
   refine JJ.regionEnd ?_
   refine JJ.cond2 rfl (fun hc8 => ?_) (fun hc8 => ?_)
   ·
    have hc8b : (!(wantsK (x.op) (((i : Nat) : Int)) ((d.ty s1.kf).1))) = true := hc8
    replace hc8 := not_t hc8
    replace hc8b := hc8
    refine JJ.region rfl fun rg => ?_
    refine JJ.move rg rfl rfl rfl ?_
    refine JJ.move rg rfl rfl rfl ?_
    (try dsimp only [List.set])
    refine JJ.call (Lr := [_, _]) bo40 rg rfl rfl rfl rfl (fail _ b (s1) (11) (at1)) (fun h q => q.pull 0 rfl) fun _ I11 hle12 _ => ?_
    (try dsimp only [List.set, List.cons_append, List.nil_append])
    replace hre1 := hre1.mono hle12
    replace hle := hle.trans hle12
    refine JJ.regionEnd ?_
    refine JJ.region rfl fun rg => ?_
    refine JJ.move rg rfl rfl rfl ?_
    refine JJ.assign rg rfl rfl rfl ?_
    refine JJ.regionEnd ?_
    refine JJ.inBlock ?_
    refine JJ.region rfl fun rg => ?_
    refine JJ.binI (z := ((i + 1 : Nat) : Int)) rg rfl rfl rfl rfl rfl (wrap_to (by omega) (by omega) (by omega)) ?_
    refine JJ.move rg rfl rfl rfl ?_
    refine JJ.regionEnd ?_
    refine JJ.pull 1 rfl rfl ?_
    refine JJ.drop ?_
    refine JJ.pull 1 rfl rfl ?_
    have he : s1.expr1 x.op ((i : Nat) : Int) at1 d = (Ck.fail (s1) (11) (at1)) := by unfold Ck.expr1; simp [*]
    refine JJ.res (L' := [_, ckR b (s1.expr1 x.op ((i : Nat) : Int) at1 d)]) (fun h q => by rw [he]; exact q) ?_
    refine JJ.keep _ ?_ (ih (i + 1, _, s1.expr1 x.op ((i : Nat) : Int) at1 d, (d.ty s1.kf).1) ⟨hlt, hle, by rw [expr1_scope]; exact hsc1, hst⟩ (by dsimp only; omega))
    repeat (first | exact trivial | refine ⟨rfl, ?_⟩)
   ·
    have hc8b : (!(wantsK (x.op) (((i : Nat) : Int)) ((d.ty s1.kf).1))) = false := hc8
    replace hc8 := not_f hc8
    replace hc8b := hc8
    refine JJ.skip ?_
    refine JJ.region rfl fun rg => ?_
    refine JJ.move rg rfl rfl rfl ?_
    refine JJ.assign rg rfl rfl rfl ?_
    refine JJ.regionEnd ?_
    refine JJ.inBlock ?_
    refine JJ.region rfl fun rg => ?_
    refine JJ.binI (z := ((i + 1 : Nat) : Int)) rg rfl rfl rfl rfl rfl (wrap_to (by omega) (by omega) (by omega)) ?_
    refine JJ.move rg rfl rfl rfl ?_
    refine JJ.regionEnd ?_
    refine JJ.pull 1 rfl rfl ?_
    refine JJ.drop ?_
    refine JJ.pull 1 rfl rfl ?_
    have he : s1.expr1 x.op ((i : Nat) : Int) at1 d = s1 := by unfold Ck.expr1; simp [*]
    refine JJ.res (L' := [_, ckR b (s1.expr1 x.op ((i : Nat) : Int) at1 d)]) (fun h q => by rw [he]; exact q) ?_
    refine JJ.keep _ ?_ (ih (i + 1, _, s1.expr1 x.op ((i : Nat) : Int) at1 d, (d.ty s1.kf).1) ⟨hlt, hle, by rw [expr1_scope]; exact hsc1, hst⟩ (by dsimp only; omega))
    repeat (first | exact trivial | refine ⟨rfl, ?_⟩)
 ·
  have hc3b : (decide ((((i : Nat) : Int) : Int) < ((x.e.length : Nat) : Int))) = false := hc3
  replace hc3 := of_decide_eq_false hc3
  obtain rfl : i = x.e.length := by omega
  rw [List.take_length] at hex
  refine JJ.exit rfl ?_
  refine JJ.seq ?_
  refine JJ.region rfl fun rg => ?_
  refine JJ.move rg rfl rfl rfl ?_
  refine JJ.assign rg rfl rfl rfl ?_
  refine JJ.regionEnd ?_
  refine JJ.pull 1 rfl rfl ?_
  refine JJ.pull 1 rfl rfl ?_
  refine JJ.drop ?_
  refine JJ.ret1 rfl Try.func55 rfl rfl fun h q => ⟨(), trivial, by rw [hex], by rw [hex]; exact q⟩
theorem let_ (I : Hp) (b : Nat) (s : Ck) (nm : ByteArray) (kd at1 : Int) (h0 : 0 < s.scope.length) (hsc : s.scope.length ≤ 4294967296) : Fn Try.prog 56 #[.pointer (some ⟨b, 0, none⟩), .string nm, .int .i64 kd, .int .i64 at1] I [ckR b s] (Ret (X := Unit) (fun _ _ => True) (fun _ => .tuple #[]) fun _ => [ckR b (s.let_ nm kd at1)]) := by
 refine Fn.of (args := [_, _, _, _]) Try.func56 rfl rfl ?_
 refine JJ.seq ?_
 refine JJ.seq ?_
 refine JJ.exOpen ?_
 rintro ⟨A, cp, pb⟩
 dsimp only [List.cons_append, List.nil_append]
 refine JJ.region rfl fun rg => ?_
 refine JJ.move rg rfl rfl rfl ?_
 refine JJ.nilCheck rg rfl rfl rfl ?_
 refine JJ.fieldAddr (a' := ⟨b, 0, none⟩) fo89_0 rg rfl rfl rfl rfl ?_
 refine JJ.loadL (v := .slice (A) (s.scope.length) (cp)) ty87 0 rg rfl rfl rfl rfl rfl ?_
 refine JJ.move rg rfl rfl rfl ?_
 (try dsimp only [List.set])
 refine JJ.call (Lr := [_, _]) bo72 rg rfl rfl rfl rfl (kind _ A s.scope.length cp s.scope nm hsc) (fun h q => q.pull 1 rfl) fun _ I1 hle2 _ => ?_
 refine JJ.res (L' := [_, _, _]) (fun h q => Sat.put (L := [_, (fun _ => True), _]) 1 (by simp only [List.length_cons]; omega) q) ?_
 (try dsimp only [List.set, List.cons_append, List.nil_append])
 refine JJ.assign rg rfl rfl rfl ?_
 refine JJ.regionEnd ?_
 refine JJ.res (fun h q => Sat.close (L := []) (P := (fun p : Option Addr × Nat × Nat => [blk b (.cells [Value.slice p.1 s.scope.length p.2.1, .map (some p.2.2), .int .i64 s.at_, .int .i64 s.fault.1, .int .i64 s.fault.2].toArray 89), scp 85 p.1 s.scope.length p.2.1 s.scope, mapR p.2.2 s.procs.toS])) (A, cp, pb) q) ?_
 change JJ _ _ _ _ _ [ckR b s]
 refine JJ.seq ?_
 refine JJ.cut (X := Hp) (fun _ => [(21, .bool ((!decide (kindOf nm s.scope = 0) && !decide (kindOf nm s.scope = kd)))), (0, .pointer (some ⟨b, 0, none⟩)), (1, .string (nm)), (2, .int .i64 (kd)), (3, .int .i64 (at1))]) (fun x => x) (fun _ => [ckR b s]) (fun x => Hp.le (I1) x) (fun hk4 => ?_) ?_
 ·
  have hleM3 := Hp.le.refl (I1)
  refine JJ.region rfl fun rg => ?_
  refine JJ.move rg rfl rfl rfl ?_
  refine JJ.bin rg rfl rfl rfl rfl rfl ?_
  refine JJ.move rg rfl rfl rfl ?_
  refine JJ.split 17 rfl (fun hg1_3 => ?_) (fun hg1_3 => ?_)
  ·
   have hg1_3b : (!decide ((kindOf nm s.scope : Int) = 0)) = true := hg1_3
   replace hg1_3 := not_t hg1_3
   replace hg1_3b := hg1_3
   replace hg1_3 := of_decide_eq_false hg1_3
   refine JJ.move rg rfl rfl rfl ?_
   refine JJ.move rg rfl rfl rfl ?_
   refine JJ.bin rg rfl rfl rfl rfl rfl ?_
   refine JJ.pick (b := true) rg rfl rfl rfl rfl ?_
   refine JJ.regionEnd ?_
   refine JJ.keep _ ?_ (hk4 _ hleM3)
   exact ⟨congrArg (fun b => some (Value.bool b)) (show (!decide ((kindOf nm s.scope : Int) = kd)) = ((!decide (kindOf nm s.scope = 0) && !decide (kindOf nm s.scope = kd))) from by try simp only [hg1_3b]; simp), rfl, rfl, rfl, rfl, trivial⟩
  ·
   have hg1_3b : (!decide ((kindOf nm s.scope : Int) = 0)) = false := hg1_3
   replace hg1_3 := not_f hg1_3
   replace hg1_3b := hg1_3
   replace hg1_3 := of_decide_eq_true hg1_3
   refine JJ.gskip rg rfl rfl ?_
   refine JJ.gskip rg rfl rfl ?_
   refine JJ.gskip rg rfl rfl ?_
   refine JJ.pick (b := false) rg rfl rfl rfl rfl ?_
   refine JJ.regionEnd ?_
   refine JJ.keep _ ?_ (hk4 _ hleM3)
   exact ⟨congrArg (fun b => some (Value.bool b)) (show (false) = ((!decide (kindOf nm s.scope = 0) && !decide (kindOf nm s.scope = kd))) from by try simp only [hg1_3b]; simp), rfl, rfl, rfl, rfl, trivial⟩
 ·
  intro I5 hle6
  refine JJ.cond2 rfl (fun hc1 => ?_) (fun hc1 => ?_)
  ·
   have hc1b : ((!decide (kindOf nm s.scope = 0) && !decide (kindOf nm s.scope = kd))) = true := hc1
   obtain ⟨s2, hs2⟩ : ∃ s2, s2 = (if s.kf nm ≠ 0 ∧ s.kf nm ≠ kd then s.fail 11 at1 else s) := ⟨_, rfl⟩
   have h20 : 0 < s2.scope.length ∧ s2.scope.length ≤ 4294967296 := by rw [hs2]; split <;> (try rw [fail_scope]) <;> exact ⟨h0, hsc⟩
   have hlet : s.let_ nm kd at1 = { s2 with scope := s2.scope.set (s2.scope.length - 1) (((s2.scope[s2.scope.length - 1]?).getD []).set nm kd) } := by rw [hs2]; rfl
   replace hs2 : s2 = s.fail 11 at1 := by rw [hs2]; exact if_pos (by have h9 := hc1b; simp only [Bool.and_eq_true, Bool.not_eq_true', decide_eq_false_iff_not, Bool.and_eq_false_iff, Bool.not_eq_false', decide_eq_true_eq] at h9; exact h9)
   refine JJ.region rfl fun rg => ?_
   refine JJ.move rg rfl rfl rfl ?_
   refine JJ.move rg rfl rfl rfl ?_
   (try dsimp only [List.set])
   refine JJ.call (Lr := []) bo40 rg rfl rfl rfl rfl (fail _ b s (11) (at1)) (fun h q => q.pull 0 rfl) fun _ I7 hle8 _ => ?_
   (try dsimp only [List.set, List.cons_append, List.nil_append])
   refine JJ.regionEnd ?_
   refine JJ.res (L' := [ckR b s2]) (fun h q => by rw [hs2]; exact q) ?_
   refine JJ.exOpen ?_
   rintro ⟨A, cp, pb⟩
   dsimp only [List.cons_append, List.nil_append]
   refine JJ.pull 1 rfl rfl ?_
   refine JJ.exOpen fun bs => ?_
   refine JJ.pure fun hbs => ?_
   obtain ⟨hbs, -⟩ := hbs
   refine JJ.ownSome h20.1 fun gg hA hcap hol => ?_
   subst hA
   obtain ⟨nn, hnn⟩ : ∃ nn, s2.scope.length = nn + 1 := ⟨s2.scope.length - 1, by omega⟩
   obtain ⟨mm, hmm⟩ : ∃ mm, s2.scope[nn]? = some mm := ⟨_, List.getElem?_eq_getElem (by omega)⟩
   obtain ⟨bb, hbb⟩ : ∃ bb, bs[nn]? = some bb := ⟨_, List.getElem?_eq_getElem (by omega)⟩
   refine JJ.res (fun h q => Sat.rot (A := own 85 1 (some ⟨gg, 0, none⟩) s2.scope.length cp (bs.map fun b => Value.map (some b)) :: zipM bs s2.scope) (B := [_, _]) q) ?_
   dsimp only [List.cons_append, List.nil_append]
   refine JJ.draw (m := 14) [(0, .pointer (some ⟨b, 0, none⟩)), (1, .string (nm)), (2, .int .i64 (kd))]
    (fun i => match i with | 0 => fun _ v => v = .pointer (some ⟨b, 0, none⟩) | 1 => fun _ v => v = .pointer (some ⟨b, 0, none⟩) | 2 => fun _ v => v = .pointer (some ⟨b, 0, none⟩) | 3 => fun _ v => v = .slice (some ⟨gg, 0, none⟩) (s2.scope.length) (cp) | 4 => fun _ v => v = .pointer (some ⟨b, 0, none⟩) | 5 => fun _ v => v = .pointer (some ⟨b, 0, none⟩) | 6 => fun _ v => v = .pointer (some ⟨b, 0, none⟩) | 7 => fun _ v => v = .slice (some ⟨gg, 0, none⟩) (s2.scope.length) (cp) | 8 => fun _ v => v = .int .i64 (((s2.scope.length : Nat) : Int)) | 9 => fun _ v => v = .int .i64 (((nn : Nat) : Int)) | 10 => fun _ v => v = .pointer (some (⟨gg, nn, none⟩)) | 11 => fun _ v => v = .map (some bb) | 12 => fun _ v => v = .string (nm) | 13 => fun _ v => v = .int .i64 (kd) | _ => fun _ _ => False) mx rfl rfl ?_ (by repeat (first | exact trivial | refine ⟨rfl, ?_⟩)) (fun rg => ?_) (fun rg => ?_)
   ·
    rintro (_ | _ | _ | _ | _ | _ | _ | _ | _ | _ | _ | _ | _ | _ | i) I1_ I2_ v l h
    · exact h
    · exact h
    · exact h
    · exact h
    · exact h
    · exact h
    · exact h
    · exact h
    · exact h
    · exact h
    · exact h
    · exact h
    · exact h
    · exact h
    · exact h
   ·
    refine ⟨?_, ?_, ?_, ?_, ?_, ?_, ?_, ?_, ?_, ?_, ?_, ?_, ?_, ?_, trivial⟩
    ·
     intro is E2 I2_ hle_ hb hd kk_
     obtain ⟨hb0, hb1, hb2, -⟩ := hb
     refine JJ.move rg rfl rfl hb0 (kk_ _ _ (.refl _) rfl)
    ·
     intro is E2 I2_ hle_ hb hd kk_
     obtain ⟨hb0, hb1, hb2, -⟩ := hb
     obtain ⟨d0, v0, e0, g0, s0⟩ := hd 0 (by decide)
     cases e0
     subst s0
     refine JJ.nilCheck rg rfl rfl g0 (kk_ _ _ (.refl _) rfl)
    ·
     intro is E2 I2_ hle_ hb hd kk_
     obtain ⟨hb0, hb1, hb2, -⟩ := hb
     obtain ⟨d1, v1, e1, g1, s1⟩ := hd 1 (by decide)
     cases e1
     subst s1
     refine JJ.fieldAddr (a' := ⟨b, 0, none⟩) fo89_0 rg rfl rfl g1 rfl (kk_ _ _ (.refl _) rfl)
    ·
     intro is E2 I2_ hle_ hb hd kk_
     obtain ⟨hb0, hb1, hb2, -⟩ := hb
     obtain ⟨d2, v2, e2, g2, s2⟩ := hd 2 (by decide)
     cases e2
     subst s2
     refine JJ.loadL (v := .slice (some ⟨gg, 0, none⟩) (s2.scope.length) (cp)) ty87 0 rg rfl rfl g2 rfl rfl (kk_ _ _ (.refl _) rfl)
    ·
     intro is E2 I2_ hle_ hb hd kk_
     obtain ⟨hb0, hb1, hb2, -⟩ := hb
     refine JJ.move rg rfl rfl hb0 (kk_ _ _ (.refl _) rfl)
    ·
     intro is E2 I2_ hle_ hb hd kk_
     obtain ⟨hb0, hb1, hb2, -⟩ := hb
     obtain ⟨d4, v4, e4, g4, s4⟩ := hd 4 (by decide)
     cases e4
     subst s4
     refine JJ.nilCheck rg rfl rfl g4 (kk_ _ _ (.refl _) rfl)
    ·
     intro is E2 I2_ hle_ hb hd kk_
     obtain ⟨hb0, hb1, hb2, -⟩ := hb
     obtain ⟨d5, v5, e5, g5, s5⟩ := hd 5 (by decide)
     cases e5
     subst s5
     refine JJ.fieldAddr (a' := ⟨b, 0, none⟩) fo89_0 rg rfl rfl g5 rfl (kk_ _ _ (.refl _) rfl)
    ·
     intro is E2 I2_ hle_ hb hd kk_
     obtain ⟨hb0, hb1, hb2, -⟩ := hb
     obtain ⟨d6, v6, e6, g6, s6⟩ := hd 6 (by decide)
     cases e6
     subst s6
     refine JJ.loadL (v := .slice (some ⟨gg, 0, none⟩) (s2.scope.length) (cp)) ty87 0 rg rfl rfl g6 rfl rfl (kk_ _ _ (.refl _) rfl)
    ·
     intro is E2 I2_ hle_ hb hd kk_
     obtain ⟨hb0, hb1, hb2, -⟩ := hb
     obtain ⟨d7, v7, e7, g7, s7⟩ := hd 7 (by decide)
     cases e7
     subst s7
     refine JJ.lenSlice ss87 rg rfl rfl g7 (kk_ _ _ (.refl _) rfl)
    ·
     intro is E2 I2_ hle_ hb hd kk_
     obtain ⟨hb0, hb1, hb2, -⟩ := hb
     obtain ⟨d8, v8, e8, g8, s8⟩ := hd 8 (by decide)
     cases e8
     subst s8
     refine JJ.binI (z := ((nn : Nat) : Int)) rg rfl rfl g8 rfl rfl (wrap_to (by omega) (by omega) (by omega)) (kk_ _ _ (.refl _) rfl)
    ·
     intro is E2 I2_ hle_ hb hd kk_
     obtain ⟨hb0, hb1, hb2, -⟩ := hb
     obtain ⟨d3, v3, e3, g3, s3⟩ := hd 3 (by decide)
     cases e3
     subst s3
     obtain ⟨d9, v9, e9, g9, s9⟩ := hd 9 (by decide)
     cases e9
     subst s9
     refine JJ.indexAddr (a' := ⟨gg, nn, none⟩) eo87 rg rfl rfl g3 g9 (by omega) (by omega) (by rw [Addr.add_lit]; simp) (kk_ _ _ (.refl _) rfl)
    ·
     intro is E2 I2_ hle_ hb hd kk_
     obtain ⟨hb0, hb1, hb2, -⟩ := hb
     obtain ⟨d10, v10, e10, g10, s10⟩ := hd 10 (by decide)
     cases e10
     subst s10
     refine JJ.loadOwn (v := .map (some bb)) ty85 2 rg rfl rfl g10 rfl (by unfold ldV; simp [hbb]) (kk_ _ _ (.refl _) rfl)
    ·
     intro is E2 I2_ hle_ hb hd kk_
     obtain ⟨hb0, hb1, hb2, -⟩ := hb
     refine JJ.move rg rfl rfl hb1 (kk_ _ _ (.refl _) rfl)
    ·
     intro is E2 I2_ hle_ hb hd kk_
     obtain ⟨hb0, hb1, hb2, -⟩ := hb
     refine JJ.move rg rfl rfl hb2 (kk_ _ _ (.refl _) rfl)
   intro vs I10 hle9 hs_
   obtain ⟨hv0, hv1, hv2, hv3, hv4, hv5, hv6, hv7, hv8, hv9, hv10, hv11, hv12, hv13, -⟩ := hs_
   refine JJ.keep [(0, .pointer (some ⟨b, 0, none⟩)), (1, .string (nm)), (2, .int .i64 (kd)), (25, .pointer (some ⟨b, 0, none⟩)), (26, .pointer (some ⟨b, 0, none⟩)), (27, .pointer (some ⟨b, 0, none⟩)), (28, .slice (some ⟨gg, 0, none⟩) (s2.scope.length) (cp)), (29, .pointer (some ⟨b, 0, none⟩)), (30, .pointer (some ⟨b, 0, none⟩)), (31, .pointer (some ⟨b, 0, none⟩)), (32, .slice (some ⟨gg, 0, none⟩) (s2.scope.length) (cp)), (33, .int .i64 (((s2.scope.length : Nat) : Int))), (34, .int .i64 (((nn : Nat) : Int))), (35, .pointer (some (⟨gg, nn, none⟩))), (36, .map (some bb)), (37, .string (nm)), (38, .int .i64 (kd))] ⟨rfl, rfl, rfl, congrArg some hv0, congrArg some hv1, congrArg some hv2, congrArg some hv3, congrArg some hv4, congrArg some hv5, congrArg some hv6, congrArg some hv7, congrArg some hv8, congrArg some hv9, congrArg some hv10, congrArg some hv11, congrArg some hv12, congrArg some hv13, trivial⟩ ?_
   refine JJ.mapUpdate sm85 (nn + 3) rg rfl rfl rfl rfl rfl (show (_ :: _ :: _ :: zipM bs s2.scope)[nn + 1 + 1 + 1]? = _ from by simp only [List.getElem?_cons_succ]; exact zipM_get hbb hmm) rfl ?_
   rw [show nn + 3 = nn + 1 + 1 + 1 from rfl, List.set_cons_succ, List.set_cons_succ, List.set_cons_succ, IMap.toS_set, zipM_set hbb]
   refine JJ.regionEnd ?_
   refine JJ.end0 rfl Try.func56 rfl (fun h q => ⟨(), trivial, rfl, ?_⟩)
   rw [hlet]
   have e1 : (s2.scope.set (s2.scope.length - 1) (((s2.scope[s2.scope.length - 1]?).getD []).set nm kd)) = s2.scope.set nn (mm.set nm kd) := by rw [show s2.scope.length - 1 = nn from by omega, hmm]; rfl
   rw [e1]
   refine Sat.close (L := []) (P := (fun p : Option Addr × Nat × Nat => [blk b (.cells [Value.slice p.1 { s2 with scope := s2.scope.set nn (mm.set nm kd) : Ck }.scope.length p.2.1, .map (some p.2.2), .int .i64 { s2 with scope := s2.scope.set nn (mm.set nm kd) : Ck }.at_, .int .i64 { s2 with scope := s2.scope.set nn (mm.set nm kd) : Ck }.fault.1, .int .i64 { s2 with scope := s2.scope.set nn (mm.set nm kd) : Ck }.fault.2].toArray 89), scp 85 p.1 { s2 with scope := s2.scope.set nn (mm.set nm kd) : Ck }.scope.length p.2.1 { s2 with scope := s2.scope.set nn (mm.set nm kd) : Ck }.scope, mapR p.2.2 { s2 with scope := s2.scope.set nn (mm.set nm kd) : Ck }.procs.toS])) (some ⟨gg, 0, none⟩, cp, pb) ?_
   rw [show s2.scope.length = (s2.scope.set nn (mm.set nm kd)).length from by rw [List.length_set]] at q
   have q2 := Sat.rot (A := [_, _]) (B := own 85 1 (some ⟨gg, 0, none⟩) (s2.scope.set nn (mm.set nm kd)).length cp (bs.map fun b => Value.map (some b)) :: zipM bs (s2.scope.set nn (mm.set nm kd))) q
   have q3 : Sat (scp 85 (some ⟨gg, 0, none⟩) (s2.scope.set nn (mm.set nm kd)).length cp (s2.scope.set nn (mm.set nm kd)) :: [_, _]) h := Sat.close bs (Sat.pure ⟨by simpa using hbs, rfl⟩ q2)
   exact Sat.perm (List.Perm.swap _ _ _) q3
  ·
   have hc1b : ((!decide (kindOf nm s.scope = 0) && !decide (kindOf nm s.scope = kd))) = false := hc1
   obtain ⟨s2, hs2⟩ : ∃ s2, s2 = (if s.kf nm ≠ 0 ∧ s.kf nm ≠ kd then s.fail 11 at1 else s) := ⟨_, rfl⟩
   have h20 : 0 < s2.scope.length ∧ s2.scope.length ≤ 4294967296 := by rw [hs2]; split <;> (try rw [fail_scope]) <;> exact ⟨h0, hsc⟩
   have hlet : s.let_ nm kd at1 = { s2 with scope := s2.scope.set (s2.scope.length - 1) (((s2.scope[s2.scope.length - 1]?).getD []).set nm kd) } := by rw [hs2]; rfl
   replace hs2 : s2 = s := by rw [hs2]; exact if_neg (by have h9 := hc1b; simp only [Bool.and_eq_true, Bool.not_eq_true', decide_eq_false_iff_not, Bool.and_eq_false_iff, Bool.not_eq_false', decide_eq_true_eq] at h9; rintro ⟨h1, h2⟩; rcases h9 with h9 | h9; exact h1 h9; exact h2 h9)
   refine JJ.skip ?_
   refine JJ.res (L' := [ckR b s2]) (fun h q => by rw [hs2]; exact q) ?_
   refine JJ.exOpen ?_
   rintro ⟨A, cp, pb⟩
   dsimp only [List.cons_append, List.nil_append]
   refine JJ.pull 1 rfl rfl ?_
   refine JJ.exOpen fun bs => ?_
   refine JJ.pure fun hbs => ?_
   obtain ⟨hbs, -⟩ := hbs
   refine JJ.ownSome h20.1 fun gg hA hcap hol => ?_
   subst hA
   obtain ⟨nn, hnn⟩ : ∃ nn, s2.scope.length = nn + 1 := ⟨s2.scope.length - 1, by omega⟩
   obtain ⟨mm, hmm⟩ : ∃ mm, s2.scope[nn]? = some mm := ⟨_, List.getElem?_eq_getElem (by omega)⟩
   obtain ⟨bb, hbb⟩ : ∃ bb, bs[nn]? = some bb := ⟨_, List.getElem?_eq_getElem (by omega)⟩
   refine JJ.res (fun h q => Sat.rot (A := own 85 1 (some ⟨gg, 0, none⟩) s2.scope.length cp (bs.map fun b => Value.map (some b)) :: zipM bs s2.scope) (B := [_, _]) q) ?_
   dsimp only [List.cons_append, List.nil_append]
   refine JJ.draw (m := 14) [(0, .pointer (some ⟨b, 0, none⟩)), (1, .string (nm)), (2, .int .i64 (kd))]
    (fun i => match i with | 0 => fun _ v => v = .pointer (some ⟨b, 0, none⟩) | 1 => fun _ v => v = .pointer (some ⟨b, 0, none⟩) | 2 => fun _ v => v = .pointer (some ⟨b, 0, none⟩) | 3 => fun _ v => v = .slice (some ⟨gg, 0, none⟩) (s2.scope.length) (cp) | 4 => fun _ v => v = .pointer (some ⟨b, 0, none⟩) | 5 => fun _ v => v = .pointer (some ⟨b, 0, none⟩) | 6 => fun _ v => v = .pointer (some ⟨b, 0, none⟩) | 7 => fun _ v => v = .slice (some ⟨gg, 0, none⟩) (s2.scope.length) (cp) | 8 => fun _ v => v = .int .i64 (((s2.scope.length : Nat) : Int)) | 9 => fun _ v => v = .int .i64 (((nn : Nat) : Int)) | 10 => fun _ v => v = .pointer (some (⟨gg, nn, none⟩)) | 11 => fun _ v => v = .map (some bb) | 12 => fun _ v => v = .string (nm) | 13 => fun _ v => v = .int .i64 (kd) | _ => fun _ _ => False) mx rfl rfl ?_ (by repeat (first | exact trivial | refine ⟨rfl, ?_⟩)) (fun rg => ?_) (fun rg => ?_)
   ·
    rintro (_ | _ | _ | _ | _ | _ | _ | _ | _ | _ | _ | _ | _ | _ | i) I1_ I2_ v l h
    · exact h
    · exact h
    · exact h
    · exact h
    · exact h
    · exact h
    · exact h
    · exact h
    · exact h
    · exact h
    · exact h
    · exact h
    · exact h
    · exact h
    · exact h
   ·
    refine ⟨?_, ?_, ?_, ?_, ?_, ?_, ?_, ?_, ?_, ?_, ?_, ?_, ?_, ?_, trivial⟩
    ·
     intro is E2 I2_ hle_ hb hd kk_
     obtain ⟨hb0, hb1, hb2, -⟩ := hb
     refine JJ.move rg rfl rfl hb0 (kk_ _ _ (.refl _) rfl)
    ·
     intro is E2 I2_ hle_ hb hd kk_
     obtain ⟨hb0, hb1, hb2, -⟩ := hb
     obtain ⟨d0, v0, e0, g0, s0⟩ := hd 0 (by decide)
     cases e0
     subst s0
     refine JJ.nilCheck rg rfl rfl g0 (kk_ _ _ (.refl _) rfl)
    ·
     intro is E2 I2_ hle_ hb hd kk_
     obtain ⟨hb0, hb1, hb2, -⟩ := hb
     obtain ⟨d1, v1, e1, g1, s1⟩ := hd 1 (by decide)
     cases e1
     subst s1
     refine JJ.fieldAddr (a' := ⟨b, 0, none⟩) fo89_0 rg rfl rfl g1 rfl (kk_ _ _ (.refl _) rfl)
    ·
     intro is E2 I2_ hle_ hb hd kk_
     obtain ⟨hb0, hb1, hb2, -⟩ := hb
     obtain ⟨d2, v2, e2, g2, s2⟩ := hd 2 (by decide)
     cases e2
     subst s2
     refine JJ.loadL (v := .slice (some ⟨gg, 0, none⟩) (s2.scope.length) (cp)) ty87 0 rg rfl rfl g2 rfl rfl (kk_ _ _ (.refl _) rfl)
    ·
     intro is E2 I2_ hle_ hb hd kk_
     obtain ⟨hb0, hb1, hb2, -⟩ := hb
     refine JJ.move rg rfl rfl hb0 (kk_ _ _ (.refl _) rfl)
    ·
     intro is E2 I2_ hle_ hb hd kk_
     obtain ⟨hb0, hb1, hb2, -⟩ := hb
     obtain ⟨d4, v4, e4, g4, s4⟩ := hd 4 (by decide)
     cases e4
     subst s4
     refine JJ.nilCheck rg rfl rfl g4 (kk_ _ _ (.refl _) rfl)
    ·
     intro is E2 I2_ hle_ hb hd kk_
     obtain ⟨hb0, hb1, hb2, -⟩ := hb
     obtain ⟨d5, v5, e5, g5, s5⟩ := hd 5 (by decide)
     cases e5
     subst s5
     refine JJ.fieldAddr (a' := ⟨b, 0, none⟩) fo89_0 rg rfl rfl g5 rfl (kk_ _ _ (.refl _) rfl)
    ·
     intro is E2 I2_ hle_ hb hd kk_
     obtain ⟨hb0, hb1, hb2, -⟩ := hb
     obtain ⟨d6, v6, e6, g6, s6⟩ := hd 6 (by decide)
     cases e6
     subst s6
     refine JJ.loadL (v := .slice (some ⟨gg, 0, none⟩) (s2.scope.length) (cp)) ty87 0 rg rfl rfl g6 rfl rfl (kk_ _ _ (.refl _) rfl)
    ·
     intro is E2 I2_ hle_ hb hd kk_
     obtain ⟨hb0, hb1, hb2, -⟩ := hb
     obtain ⟨d7, v7, e7, g7, s7⟩ := hd 7 (by decide)
     cases e7
     subst s7
     refine JJ.lenSlice ss87 rg rfl rfl g7 (kk_ _ _ (.refl _) rfl)
    ·
     intro is E2 I2_ hle_ hb hd kk_
     obtain ⟨hb0, hb1, hb2, -⟩ := hb
     obtain ⟨d8, v8, e8, g8, s8⟩ := hd 8 (by decide)
     cases e8
     subst s8
     refine JJ.binI (z := ((nn : Nat) : Int)) rg rfl rfl g8 rfl rfl (wrap_to (by omega) (by omega) (by omega)) (kk_ _ _ (.refl _) rfl)
    ·
     intro is E2 I2_ hle_ hb hd kk_
     obtain ⟨hb0, hb1, hb2, -⟩ := hb
     obtain ⟨d3, v3, e3, g3, s3⟩ := hd 3 (by decide)
     cases e3
     subst s3
     obtain ⟨d9, v9, e9, g9, s9⟩ := hd 9 (by decide)
     cases e9
     subst s9
     refine JJ.indexAddr (a' := ⟨gg, nn, none⟩) eo87 rg rfl rfl g3 g9 (by omega) (by omega) (by rw [Addr.add_lit]; simp) (kk_ _ _ (.refl _) rfl)
    ·
     intro is E2 I2_ hle_ hb hd kk_
     obtain ⟨hb0, hb1, hb2, -⟩ := hb
     obtain ⟨d10, v10, e10, g10, s10⟩ := hd 10 (by decide)
     cases e10
     subst s10
     refine JJ.loadOwn (v := .map (some bb)) ty85 2 rg rfl rfl g10 rfl (by unfold ldV; simp [hbb]) (kk_ _ _ (.refl _) rfl)
    ·
     intro is E2 I2_ hle_ hb hd kk_
     obtain ⟨hb0, hb1, hb2, -⟩ := hb
     refine JJ.move rg rfl rfl hb1 (kk_ _ _ (.refl _) rfl)
    ·
     intro is E2 I2_ hle_ hb hd kk_
     obtain ⟨hb0, hb1, hb2, -⟩ := hb
     refine JJ.move rg rfl rfl hb2 (kk_ _ _ (.refl _) rfl)
   intro vs I12 hle11 hs_
   obtain ⟨hv0, hv1, hv2, hv3, hv4, hv5, hv6, hv7, hv8, hv9, hv10, hv11, hv12, hv13, -⟩ := hs_
   refine JJ.keep [(0, .pointer (some ⟨b, 0, none⟩)), (1, .string (nm)), (2, .int .i64 (kd)), (25, .pointer (some ⟨b, 0, none⟩)), (26, .pointer (some ⟨b, 0, none⟩)), (27, .pointer (some ⟨b, 0, none⟩)), (28, .slice (some ⟨gg, 0, none⟩) (s2.scope.length) (cp)), (29, .pointer (some ⟨b, 0, none⟩)), (30, .pointer (some ⟨b, 0, none⟩)), (31, .pointer (some ⟨b, 0, none⟩)), (32, .slice (some ⟨gg, 0, none⟩) (s2.scope.length) (cp)), (33, .int .i64 (((s2.scope.length : Nat) : Int))), (34, .int .i64 (((nn : Nat) : Int))), (35, .pointer (some (⟨gg, nn, none⟩))), (36, .map (some bb)), (37, .string (nm)), (38, .int .i64 (kd))] ⟨rfl, rfl, rfl, congrArg some hv0, congrArg some hv1, congrArg some hv2, congrArg some hv3, congrArg some hv4, congrArg some hv5, congrArg some hv6, congrArg some hv7, congrArg some hv8, congrArg some hv9, congrArg some hv10, congrArg some hv11, congrArg some hv12, congrArg some hv13, trivial⟩ ?_
   refine JJ.mapUpdate sm85 (nn + 3) rg rfl rfl rfl rfl rfl (show (_ :: _ :: _ :: zipM bs s2.scope)[nn + 1 + 1 + 1]? = _ from by simp only [List.getElem?_cons_succ]; exact zipM_get hbb hmm) rfl ?_
   rw [show nn + 3 = nn + 1 + 1 + 1 from rfl, List.set_cons_succ, List.set_cons_succ, List.set_cons_succ, IMap.toS_set, zipM_set hbb]
   refine JJ.regionEnd ?_
   refine JJ.end0 rfl Try.func56 rfl (fun h q => ⟨(), trivial, rfl, ?_⟩)
   rw [hlet]
   have e1 : (s2.scope.set (s2.scope.length - 1) (((s2.scope[s2.scope.length - 1]?).getD []).set nm kd)) = s2.scope.set nn (mm.set nm kd) := by rw [show s2.scope.length - 1 = nn from by omega, hmm]; rfl
   rw [e1]
   refine Sat.close (L := []) (P := (fun p : Option Addr × Nat × Nat => [blk b (.cells [Value.slice p.1 { s2 with scope := s2.scope.set nn (mm.set nm kd) : Ck }.scope.length p.2.1, .map (some p.2.2), .int .i64 { s2 with scope := s2.scope.set nn (mm.set nm kd) : Ck }.at_, .int .i64 { s2 with scope := s2.scope.set nn (mm.set nm kd) : Ck }.fault.1, .int .i64 { s2 with scope := s2.scope.set nn (mm.set nm kd) : Ck }.fault.2].toArray 89), scp 85 p.1 { s2 with scope := s2.scope.set nn (mm.set nm kd) : Ck }.scope.length p.2.1 { s2 with scope := s2.scope.set nn (mm.set nm kd) : Ck }.scope, mapR p.2.2 { s2 with scope := s2.scope.set nn (mm.set nm kd) : Ck }.procs.toS])) (some ⟨gg, 0, none⟩, cp, pb) ?_
   rw [show s2.scope.length = (s2.scope.set nn (mm.set nm kd)).length from by rw [List.length_set]] at q
   have q2 := Sat.rot (A := [_, _]) (B := own 85 1 (some ⟨gg, 0, none⟩) (s2.scope.set nn (mm.set nm kd)).length cp (bs.map fun b => Value.map (some b)) :: zipM bs (s2.scope.set nn (mm.set nm kd))) q
   have q3 : Sat (scp 85 (some ⟨gg, 0, none⟩) (s2.scope.set nn (mm.set nm kd)).length cp (s2.scope.set nn (mm.set nm kd)) :: [_, _]) h := Sat.close bs (Sat.pure ⟨by simpa using hbs, rfl⟩ q2)
   exact Sat.perm (List.Perm.swap _ _ _) q3
end Wk
end Go.Proofs.Ytlcdafeoionnhaa
