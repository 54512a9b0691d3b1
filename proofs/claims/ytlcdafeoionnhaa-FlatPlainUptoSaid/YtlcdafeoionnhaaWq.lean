/- Walks of functions, printed by a program of this session (wip/tool/eng.py). -/
import Derived.Test.YtlcdafeoionnhaaProg
import Derived.Test.YtlcdafeoionnhaaFlat
import Derived.Test.YtlcdafeoionnhaaWa
import Derived.Test.YtlcdafeoionnhaaWg
import Derived.Test.YtlcdafeoionnhaaWn
import Derived.Test.YtlcdafeoionnhaaVa
import Derived.Test.YtlcdafeoionnhaaWp
namespace Go.Proofs.Ytlcdafeoionnhaa
open Go
set_option linter.unusedVariables false
set_option linter.unusedSimpArgs false
namespace Wq
theorem bo10 : bodyOk Try.prog 10 = true := by kernel_rfl
theorem bo12 : bodyOk Try.prog 12 = true := by kernel_rfl
theorem bo13 : bodyOk Try.prog 13 = true := by kernel_rfl
theorem bo14 : bodyOk Try.prog 14 = true := by kernel_rfl
theorem bo4 : bodyOk Try.prog 4 = true := by kernel_rfl
theorem bo5 : bodyOk Try.prog 5 = true := by kernel_rfl
theorem bo6 : bodyOk Try.prog 6 = true := by kernel_rfl
theorem bo7 : bodyOk Try.prog 7 = true := by kernel_rfl
theorem bo8 : bodyOk Try.prog 8 = true := by kernel_rfl
theorem bo9 : bodyOk Try.prog 9 = true := by kernel_rfl
theorem eo22 : elemO Try.prog 22 = some (44, 2) := by kernel_rfl
theorem eo23 : elemO Try.prog 23 = some (35, 7) := by kernel_rfl
theorem fo26_0 : fieldO Try.prog 26 0 = some 0 := by kernel_rfl
theorem fo26_1 : fieldO Try.prog 26 1 = some 1 := by kernel_rfl
theorem fo26_2 : fieldO Try.prog 26 2 = some 2 := by kernel_rfl
theorem fo26_3 : fieldO Try.prog 26 3 = some 3 := by kernel_rfl
theorem fo35_0 : fieldO Try.prog 35 0 = some 0 := by kernel_rfl
theorem fo35_4 : fieldO Try.prog 35 4 = some 4 := by kernel_rfl
theorem fo44_0 : fieldO Try.prog 44 0 = some 0 := by kernel_rfl
theorem fo44_1 : fieldO Try.prog 44 1 = some 1 := by kernel_rfl
theorem fo47_1 : fieldO Try.prog 47 1 = some 1 := by kernel_rfl
theorem pt39 : pairT Try.prog 39 = true := by kernel_rfl
theorem sm42 : smapT Try.prog 42 = some 23 := by kernel_rfl
theorem so26 : structO Try.prog 26 = some [(0, 1), (1, 1), (2, 1), (3, 1)] := by kernel_rfl
theorem so35 : structO Try.prog 35 = some [(0, 1), (1, 1), (2, 1), (3, 1), (4, 1), (5, 1), (6, 1)] := by kernel_rfl
theorem so39 : structO Try.prog 39 = some [(0, 1), (1, 1)] := by kernel_rfl
theorem so47 : structO Try.prog 47 = some [(0, 1), (1, 1), (2, 1)] := by kernel_rfl
theorem ss22 : isSliceT Try.prog 22 = true := by kernel_rfl
theorem ss23 : isSliceT Try.prog 23 = true := by kernel_rfl
theorem ty22 : tyI Try.prog 22 = some (false, 1) := by kernel_rfl
theorem ty23 : tyI Try.prog 23 = some (false, 1) := by kernel_rfl
theorem ty24 : tyI Try.prog 24 = some (false, 1) := by kernel_rfl
theorem ty26 : tyI Try.prog 26 = some (true, 4) := by kernel_rfl
theorem ty3 : tyI Try.prog 3 = some (false, 1) := by kernel_rfl
theorem ty4 : tyI Try.prog 4 = some (false, 1) := by kernel_rfl
theorem ty42 : tyI Try.prog 42 = some (false, 1) := by kernel_rfl
theorem ty44 : tyI Try.prog 44 = some (true, 2) := by kernel_rfl
theorem ty9 : tyI Try.prog 9 = some (false, 1) := by kernel_rfl
theorem zo26 : zeroOf Try.prog 26 = some (.agg #[.slice none 0 0, .slice none 0 0, .slice none 0 0, .slice none 0 0]) := by kernel_rfl
theorem zo35 : zeroOf Try.prog 35 = some (.agg #[.int .i64 0, .string ⟨#[]⟩, .int .i64 0, .slice none 0 0, .slice none 0 0, .slice none 0 0, .bool false]) := by kernel_rfl
theorem zo39 : zeroOf Try.prog 39 = some (.agg #[.int .i64 0, .int .i64 0]) := by kernel_rfl
theorem zo4 : zeroOf Try.prog 4 = some (.bool false) := by kernel_rfl
theorem zo42 : zeroOf Try.prog 42 = some (.map none) := by kernel_rfl
theorem zo44 : zeroOf Try.prog 44 = some (.agg #[.string ⟨#[]⟩, .slice none 0 0]) := by kernel_rfl
theorem zo47 : zeroOf Try.prog 47 = some (.agg #[.map none, .int .i64 0, .int .i64 0]) := by kernel_rfl
open Wm Wn Va Wp
def pfOf (l : List Pc) : ByteArray → List St := l.foldl (fun f x s => bif decide (s = x.name) then x.body else f s) fun _ => []
theorem pfOf_take {l : List Pc} {i : Nat} {x : Pc} (h : l[i]? = some x) : pfOf (l.take (i + 1)) = fun s => bif decide (s = x.name) then x.body else pfOf (l.take i) s := by
  rw [List.take_add_one, h]; simp [pfOf]
theorem pfOf_mem (l : List Pc) (s : ByteArray) : pfOf l s = [] ∨ ∃ x ∈ l, pfOf l s = x.body := by
  have key : ∀ (l : List Pc) (f : ByteArray → List St), l.foldl (fun f x s => bif decide (s = x.name) then x.body else f s) f s = f s ∨ ∃ x ∈ l, l.foldl (fun f x s => bif decide (s = x.name) then x.body else f s) f s = x.body := by
    intro l
    induction l with
    | nil => intro f; exact .inl rfl
    | cons x l ih =>
      intro f
      rcases ih (fun s => bif decide (s = x.name) then x.body else f s) with h | ⟨y, hy, h⟩
      · cases hd : decide (s = x.name)
        · left; rw [List.foldl_cons, h, hd]; rfl
        · right; exact ⟨x, by simp, by rw [List.foldl_cons, h, hd]; rfl⟩
      · right; exact ⟨y, by simp [hy], by rw [List.foldl_cons, h]⟩
  exact key l _
def flatQ (p : Pg) : Pg := .mk [] (F_blk (pfOf p.procs) 256 [] ⟨256, 0⟩ p.main).1 (F_blk (pfOf p.procs) 256 [] ⟨256, 0⟩ p.recover).1 p.oracles
def F_flat (p : Pg) : Pg × Bool :=
  bif !decide ((((F_boundCheck p)).1, ((F_boundCheck p)).2) = ((0, 0) : Int × Int)) then (Pg.mk [] [] [] [], false)
  else bif !(decide (0 ≤ (F_blk (pfOf p.procs) 256 [] ⟨256, 0⟩ p.main).2.left) && decide (0 ≤ (F_blk (pfOf p.procs) 256 [] ⟨256, 0⟩ p.recover).2.left)) || !decide ((((F_boundCheck (Pg.mk [] (F_blk (pfOf p.procs) 256 [] ⟨256, 0⟩ p.main).1 (F_blk (pfOf p.procs) 256 [] ⟨256, 0⟩ p.recover).1 p.oracles))).1, ((F_boundCheck (Pg.mk [] (F_blk (pfOf p.procs) 256 [] ⟨256, 0⟩ p.main).1 (F_blk (pfOf p.procs) 256 [] ⟨256, 0⟩ p.recover).1 p.oracles))).2) = ((0, 0) : Int × Int)) then (Pg.mk [] [] [] [], false)
  else ((Pg.mk [] (F_blk (pfOf p.procs) 256 [] ⟨256, 0⟩ p.main).1 (F_blk (pfOf p.procs) 256 [] ⟨256, 0⟩ p.recover).1 p.oracles), true)
theorem right_of_check {p : Pg} (h : F_boundCheck p = (0, 0)) : p.right = true := by
  unfold F_boundCheck at h
  by_cases h1 : F_tyCheck p = (0, 0)
  · unfold F_tyCheck at h1
    cases hr : p.right
    · rw [hr] at h1; simp at h1
    · rfl
  · rw [decide_eq_false (show ¬ ((F_tyCheck p).1, (F_tyCheck p).2) = ((0, 0) : Int × Int) from h1)] at h
    exact absurd h h1
theorem pf_ok {p : Pg} (h : p.right = true) (s : ByteArray) : St.okl (pfOf p.procs s) 1 = true := by
  rcases pfOf_mem p.procs s with e | ⟨x, hx, e⟩ <;> rw [e]
  · rfl
  · exact right_parts h (by simp [Pg.parts]; exact .inl ⟨x, hx, rfl⟩)
theorem pf_sz {p : Pg} (s : ByteArray) : St.szl (pfOf p.procs s) ≤ p.sz := by
  have hy : p.sz = Pc.szl p.procs + St.szl p.main + St.szl p.recover + Oc.szl p.oracles := rfl
  rcases pfOf_mem p.procs s with e | ⟨x, hx, e⟩ <;> rw [e]
  · simp [St.szl]
  · have := Pc.szl_mem hx
    have h2 : x.sz = St.szl x.body + 1 := rfl
    omega
def PMr (I : Hp) (m : SMap) (pf : ByteArray → List St) : Prop := ∀ s, ∃ A cp, (m.find s).getD (.slice Option.none 0 0) = .slice A (pf s).length cp ∧ RTs I A (pf s).length cp (pf s)
theorem PMr.mono {I I' : Hp} {m : SMap} {pf : ByteArray → List St} (h : PMr I m pf) (l : I.le I') : PMr I' m pf := fun s => let ⟨A, cp, e, r⟩ := h s; ⟨A, cp, e, r.mono l⟩
theorem find_set (k : ByteArray) (v : Value) (s : ByteArray) : ∀ m : SMap, (m.set k v).find s = bif decide (s = k) then some v else m.find s
  | [] => by simp [SMap.set, SMap.find]
  | (a, w) :: r => by
    simp only [SMap.set]
    by_cases h : k = a
    · subst h
      simp only [decide_true, cond_true, SMap.find]
      cases decide (s = k) <;> rfl
    · rw [decide_eq_false h]
      simp only [cond_false, SMap.find, find_set k v s r]
      by_cases h2 : s = a
      · subst h2; rw [decide_eq_false (show ¬ s = k from fun e => h e.symm)]; simp
      · rw [decide_eq_false h2]; rfl
theorem PMr.nil {I : Hp} : PMr I [] fun _ => [] := fun s => ⟨none, 0, rfl, RTs.nil⟩
theorem PMr.set {I : Hp} {m : SMap} {pf : ByteArray → List St} (h : PMr I m pf) {k : ByteArray} {A : Option Addr} {cp : Nat} {l : List St} (hl : RTs I A l.length cp l) : PMr I (m.set k (.slice A l.length cp)) fun s => bif decide (s = k) then l else pf s := by
  intro s
  rw [find_set]
  by_cases e : s = k
  · simp only [decide_eq_true e, cond_true]; exact ⟨A, cp, rfl, hl⟩
  · simp only [decide_eq_false e, cond_false]; exact h s
theorem PM.of {I : Hp} {b : Nat} {m : SMap} {pf : ByteArray → List St} (h : MapI I b m) (r : PMr I m pf) : PM I b pf := ⟨m, h, r⟩
set_option maxHeartbeats 4000000 in
theorem part (pm C : Nat) (pf : ByteArray → List St) (hC1 : C ≤ 4294967296) (hpC : ∀ s, St.szl (pf s) + 2 ≤ C) (hpok : ∀ s, St.okl (pf s) 1 = true) (I : Hp) (b4 b7 : Nat) (e : Bool) (A : Option Addr) (cp : Nat) (l : List St) (hpm : PM I pm pf) (hl : RTs I A l.length cp l) (hok : St.okl l 1 = true) (hC : St.szl l + 2 ≤ C) :
  Fn Try.prog 12 #[.slice A l.length cp, .pointer (Option.some ⟨b4, 0, none⟩), .pointer (Option.some ⟨b7, 0, none⟩)] I [blk b4 (.cells [.map (Option.some pm)].toArray 42), blk b7 (.cells [.bool e].toArray 4)] (Ret (X := Option Addr × Nat) (fun p I => RTs I p.1 (F_blk pf 256 [] ⟨256, 0⟩ l).1.length p.2 (F_blk pf 256 [] ⟨256, 0⟩ l).1) (fun p => .slice p.1 (F_blk pf 256 [] ⟨256, 0⟩ l).1.length p.2) fun _ => [blk b4 (.cells [.map (Option.some pm)].toArray 42), blk b7 (.cells [.bool (e && decide (0 ≤ (F_blk pf 256 [] ⟨256, 0⟩ l).2.left))].toArray 4)]) := by
 have hll := St.szl_len l
 refine Fn.of (args := [_, _, _]) Try.func12 rfl rfl ?_
 refine JJ.seq ?_
 refine JJ.region rfl fun rg => ?_
 refine JJ.assign rg rfl rfl rfl ?_
 refine JJ.regionEnd ?_
 refine JJ.seq ?_
 refine JJ.region rfl fun rg => ?_
 refine JJ.loadL (v := .map (Option.some pm)) ty42 0 rg rfl rfl rfl rfl rfl ?_
 refine JJ.build (cells := #[.map (Option.some pm), .int .i64 256, .int .i64 0]) zo47 so47 rg rfl rfl rfl rfl ?_
 refine JJ.box (cs := [.map (Option.some pm), .int .i64 256, .int .i64 0]) rg rfl rfl rfl rfl fun b1 => ?_
 refine JJ.assign rg rfl rfl rfl ?_
 refine JJ.regionEnd ?_
 refine JJ.seq ?_
 refine JJ.region rfl fun rg => ?_
 refine JJ.move rg rfl rfl rfl ?_
 refine JJ.move rg rfl rfl rfl ?_
 have hcall := Wp.blk pm C pf hC1 hpC hpok 256 (by decide) _ b1 none [] ⟨256, 0⟩ A cp l 1 RK.nil hpm hl hok hC ⟨by decide, by decide, by decide, by decide⟩
 refine JJ.call (Lc := [_]) (Lr := [_, _]) bo13 rg rfl rfl rfl rfl hcall (fun _ q => q) fun ⟨A9, c9⟩ I2 hle3 hres => ?_
 dsimp only [List.cons_append, List.nil_append] at hres ⊢
 generalize hr : F_blk pf 256 [] ⟨256, 0⟩ l = r at hres ⊢
 refine JJ.assign rg rfl rfl rfl ?_
 refine JJ.regionEnd ?_
 refine JJ.seq ?_
 refine JJ.cut (X := Hp) (fun _ => [(6, .slice (A9) ((r.1).length) (c9))]) (fun x => x) (fun _ => [blk b1 (.cells ([.map (Option.some pm), .int .i64 (r.2.left), .int .i64 (r.2.vars)]).toArray 47), blk b4 (.cells ([.map (Option.some pm)]).toArray 42), blk b7 (.cells ([.bool ((e && (decide ((0 : Int) ≤ r.2.left))))]).toArray 4)]) (fun x => Hp.le (I2) x) (fun hk4 => ?_) ?_
 ·
  refine JJ.region rfl fun rg => ?_
  refine JJ.loadL (v := .bool (e)) ty4 2 rg rfl rfl rfl rfl rfl ?_
  refine JJ.move rg rfl rfl rfl ?_
  refine JJ.split 14 rfl (fun hg3_2 => ?_) (fun hg3_2 => ?_)
  ·
   have hg3_2b := hg3_2
   refine JJ.move rg rfl rfl rfl ?_
   refine JJ.nilCheck rg rfl rfl rfl ?_
   refine JJ.fieldAddr (a' := ⟨b1, 1, none⟩) fo47_1 rg rfl rfl rfl rfl ?_
   refine JJ.loadL (v := .int .i64 (r.2.left)) ty3 0 rg rfl rfl rfl rfl rfl ?_
   refine JJ.bin rg rfl rfl rfl rfl rfl ?_
   refine JJ.pick (b := true) rg rfl rfl rfl rfl ?_
   refine JJ.store (cs' := [.bool (decide ((0 : Int) ≤ r.2.left))]) ty4 2 rg rfl rfl rfl rfl rfl rfl rfl rfl rfl rfl rfl ?_
   refine JJ.regionEnd ?_
   refine JJ.res (L' := [blk b1 (.cells ([.map (Option.some pm), .int .i64 (r.2.left), .int .i64 (r.2.vars)]).toArray 47), blk b4 (.cells ([.map (Option.some pm)]).toArray 42), blk b7 (.cells ([.bool ((e && (decide ((0 : Int) ≤ r.2.left))))]).toArray 4)]) (fun h q => by simp only [hg3_2b, xb0, xb1, xb2, xb3, xb4, xb5, xb6, xb7, xb8, xb9, xb10, xb11]; exact q) ?_
   refine JJ.keep _ ?_ (hk4 _ (.refl _))
   exact ⟨rfl, trivial⟩
  ·
   have hg3_2b := hg3_2
   refine JJ.gskip rg rfl rfl ?_
   refine JJ.gskip rg rfl rfl ?_
   refine JJ.gskip rg rfl rfl ?_
   refine JJ.gskip rg rfl rfl ?_
   refine JJ.gskip rg rfl rfl ?_
   refine JJ.pick (b := false) rg rfl rfl rfl rfl ?_
   refine JJ.store (cs' := [.bool false]) ty4 2 rg rfl rfl rfl rfl rfl rfl rfl rfl rfl rfl rfl ?_
   refine JJ.regionEnd ?_
   refine JJ.res (L' := [blk b1 (.cells ([.map (Option.some pm), .int .i64 (r.2.left), .int .i64 (r.2.vars)]).toArray 47), blk b4 (.cells ([.map (Option.some pm)]).toArray 42), blk b7 (.cells ([.bool ((e && (decide ((0 : Int) ≤ r.2.left))))]).toArray 4)]) (fun h q => by simp only [hg3_2b, xb0, xb1, xb2, xb3, xb4, xb5, xb6, xb7, xb8, xb9, xb10, xb11]; exact q) ?_
   refine JJ.keep _ ?_ (hk4 _ (.refl _))
   exact ⟨rfl, trivial⟩
 ·
  intro I5 hle6
  refine JJ.seq ?_
  refine JJ.region rfl fun rg => ?_
  refine JJ.move rg rfl rfl rfl ?_
  refine JJ.assign rg rfl rfl rfl ?_
  refine JJ.regionEnd ?_
  refine JJ.drop ?_
  exact JJ.ret1 rfl Try.func12 rfl rfl (fun h q => ⟨(A9, c9), (hres.mono hle6), rfl, q⟩)
theorem clone (I : Hp) (cs_p : List Value) (p : Pg) (h_p : RP I cs_p p) (hz : p.sz ≤ 4294967296) : Fn Try.prog 14 #[.agg (cs_p).toArray] I [] (Ret (X := (List Value)) (fun x_ I' => RP I' x_ p) (fun x_ => .agg (x_).toArray) fun _ => []) := by
  obtain ⟨k, r⟩ := h_p.k
  exact (Wa.Clone k I cs_p p r hz).mono fun v I' h' _ ⟨x, h1, h2, h3⟩ => ⟨x, h1.x, h2, h3⟩
set_option maxHeartbeats 4000000 in
theorem flat (I : Hp) (cs_p : List Value) (p : Pg) (h_p : RP I cs_p p) (hgl : GL 0 I) (hz : p.sz ≤ 4294967280) (hq : (flatQ p).sz ≤ 4294967280) : Fn Try.prog 6 #[.agg (cs_p).toArray] I [] (Ret (X := (List Value)) (fun x_ I' => RP I' x_ ((F_flat p).1)) (fun x_ => .tuple #[.agg (x_).toArray, .bool ((F_flat p).2)]) fun _ => []) := by
 have hy_p : p.sz = Pc.szl p.procs + St.szl p.main + St.szl p.recover + Oc.szl p.oracles := rfl
 have hl1_p := Pc.szl_len p.procs
 have hl2_p := Oc.szl_len p.oracles
 have hl3_p := St.szl_len p.main
 have hl4_p := St.szl_len p.recover
 obtain ⟨A1, cp2, A4, cp5, A7, cp8, A10, cp11, rfl, hx3, hx6, hx9, hx12⟩ := RP.open h_p
 refine Fn.of (args := [_]) Try.func6 rfl rfl ?_
 refine JJ.seq ?_
 refine JJ.region rfl fun rg => ?_
 refine JJ.box (cs := [.slice (A1) ((p.procs).length) (cp2), .slice (A4) ((p.main).length) (cp5), .slice (A7) ((p.recover).length) (cp8), .slice (A10) ((p.oracles).length) (cp11)]) rg rfl rfl rfl rfl fun b13 => ?_
 refine JJ.alloc (cs := [.slice (none) (0) (0), .slice (none) (0) (0), .slice (none) (0) (0), .slice (none) (0) (0)]) zo26 rfl rg rfl rfl fun b14 => ?_
 refine JJ.assign rg rfl rfl rfl ?_
 refine JJ.regionEnd ?_
 refine JJ.seq ?_
 refine JJ.seq ?_
 refine JJ.region rfl fun rg => ?_
 refine JJ.loadL (v := .agg #[.slice (A1) ((p.procs).length) (cp2), .slice (A4) ((p.main).length) (cp5), .slice (A7) ((p.recover).length) (cp8), .slice (A10) ((p.oracles).length) (cp11)]) ty26 1 rg rfl rfl rfl rfl rfl ?_
 refine JJ.callp bo10 rg rfl rfl rfl rfl (boundCheck _ _ p h_p hgl (by first | assumption | omega)) fun _ I17 hle18 _ => ?_
 refine JJ.build (cells := #[.int .i64 0, .int .i64 0]) zo39 so39 rg rfl rfl rfl rfl ?_
 refine JJ.nePair pt39 rg rfl rfl rfl rfl ?_
 refine JJ.regionEnd ?_
 refine JJ.cond2 rfl (fun hc1 => ?_) (fun hc1 => ?_)
 ·
  have hc1b := hc1
  replace hc1 := not_t hc1
  replace hc1b := hc1
  replace hc1 := of_decide_eq_false hc1
  refine JJ.seq ?_
  refine JJ.region rfl fun rg => ?_
  refine JJ.build (cells := #[.slice (none) (0) (0), .slice (none) (0) (0), .slice (none) (0) (0), .slice (none) (0) (0)]) zo26 so26 rg rfl rfl rfl rfl ?_
  refine JJ.store (cs' := [.slice (none) (0) (0), .slice (none) (0) (0), .slice (none) (0) (0), .slice (none) (0) (0)]) ty26 0 rg rfl rfl rfl rfl rfl rfl rfl rfl rfl rfl rfl ?_
  refine JJ.assign rg rfl rfl rfl ?_
  refine JJ.regionEnd ?_
  have hF : F_flat p = (Pg.mk ([] : List Pc) ([] : List St) ([] : List St) ([] : List Oc), false) := by simp only [F_flat, hc1b, xb0, xb1, xb2, xb3, xb4, xb5, xb6, xb7, xb8, xb9, xb10, xb11]
  refine JJ.retct (v := .agg #[.slice (none) (0) (0), .slice (none) (0) (0), .slice (none) (0) (0), .slice (none) (0) (0)]) ty26 0 rfl Try.func6 rfl rfl rfl rfl rfl (fun h h_ => ⟨[.slice (none) (0) (0), .slice (none) (0) (0), .slice (none) (0) (0), .slice (none) (0) (0)], (by rw [hF]; exact (RP.mk RQs.nil RTs.nil RTs.nil ROs.nil)), (by rw [hF]), trivial⟩)
 ·
  have hc1b := hc1
  replace hc1 := not_f hc1
  replace hc1b := hc1
  replace hc1 := of_decide_eq_true hc1
  have hck : F_boundCheck p = (0, 0) := by have h9 := hc1b; simp only [Bool.not_eq_false', decide_eq_true_eq] at h9; exact h9
  have hrt := right_of_check hck
  refine JJ.skip ?_
  refine JJ.seq ?_
  refine JJ.region rfl fun rg => ?_
  refine JJ.makeMap rg rfl rfl fun b19 => ?_
  refine JJ.alloc (cs := [.map (none)]) zo42 rfl rg rfl rfl fun b20 => ?_
  refine JJ.store (cs' := [.map (Option.some b19)]) ty42 0 rg rfl rfl rfl rfl rfl rfl rfl rfl rfl rfl rfl ?_
  refine JJ.regionEnd ?_
  refine JJ.seq ?_
  refine JJ.seq ?_
  refine JJ.region rfl fun rg => ?_
  refine JJ.fieldAddr (a' := ⟨b13, 0, none⟩) fo26_0 rg rfl rfl rfl rfl ?_
  refine JJ.loadL (v := .slice (A1) ((p.procs).length) (cp2)) ty22 3 rg rfl rfl rfl rfl rfl ?_
  refine JJ.lenSlice ss22 rg rfl rfl rfl ?_
  refine JJ.move rg rfl rfl rfl ?_
  refine JJ.regionEnd ?_
  refine JJ.block ?_
  refine JJ.pull 2 rfl rfl ?_
  refine JJ.pull 3 rfl rfl ?_
  refine JJ.pull 2 rfl rfl ?_
  refine JJ.pull 3 rfl rfl ?_
  refine JJ.induct (X := Nat × SMap) (fun z => [(1, .pointer (some ⟨b13, 0, none⟩)), (2, .pointer (some ⟨b14, 0, none⟩)), (3, .bool false), (4, .pointer (some ⟨b20, 0, none⟩)), (17, .slice (A1) ((p.procs).length) (cp2)), (18, .int .i64 ((((p.procs).length : Nat) : Int))), (19, .int .i64 ((z.1 : Nat) : Int))]) (fun _ => I17) (fun z => [mapR b19 z.2, blk b20 (.cells ([.map (Option.some b19)]).toArray 42), blk b13 (.cells ([.slice (A1) ((p.procs).length) (cp2), .slice (A4) ((p.main).length) (cp5), .slice (A7) ((p.recover).length) (cp8), .slice (A10) ((p.oracles).length) (cp11)]).toArray 26), blk b14 (.cells ([.slice (none) (0) (0), .slice (none) (0) (0), .slice (none) (0) (0), .slice (none) (0) (0)]).toArray 26)])
   (fun z => z.1 ≤ p.procs.length ∧ PMr I17 z.2 (pfOf (p.procs.take z.1))) (fun z => p.procs.length - z.1) (0, []) ⟨Nat.zero_le _, PMr.nil⟩ (fun h => JJ.keep _ (by repeat (first | exact trivial | refine ⟨rfl, ?_⟩)) h) ?_
  rintro ⟨i, m⟩ ⟨hi, hm⟩ ih
  dsimp only at hi hm ih ⊢
  refine JJ.seq ?_
  refine JJ.region rfl fun rg => ?_
  refine JJ.bin rg rfl rfl rfl rfl rfl ?_
  refine JJ.regionEnd ?_
  refine JJ.seq ?_
  refine JJ.cond2 rfl (fun hc5 => ?_) (fun hc5 => ?_)
  ·
   have hc5b := hc5
   replace hc5 := of_decide_eq_true hc5
   have hlt : i < p.procs.length := by omega
   obtain ⟨x, hx⟩ : ∃ x, p.procs[i]? = Option.some x := ⟨_, List.getElem?_eq_getElem hlt⟩
   refine JJ.skip ?_
   refine JJ.seq ?_
   refine JJ.block ?_
   refine JJ.seq ?_
   refine JJ.region rfl fun rg => ?_
   obtain ⟨a21, cs22, hA23, hcap24, -, hre25, hrow26⟩ := RSl.get (hx3.mono hle18) hx
   have hlthx := (List.getElem?_eq_some_iff.1 hx).1
   obtain ⟨A27, cp28, rfl, hx29⟩ := RQ.open hre25
   refine JJ.indexAddrA hA23 (a' := a21.add (i * 2)) eo22 rg rfl rfl rfl rfl (by omega) (by omega) rfl ?_
   refine JJ.loadI (v := .agg #[.string (x.name), .slice (A27) ((x.body).length) (cp28)]) ty44 rg rfl rfl rfl hrow26 rfl ?_
   refine JJ.alloc (cs := [.string (⟨#[]⟩), .slice (none) (0) (0)]) zo44 rfl rg rfl rfl fun b30 => ?_
   refine JJ.store (cs' := [.string (x.name), .slice (A27) ((x.body).length) (cp28)]) ty44 0 rg rfl rfl rfl rfl rfl rfl rfl rfl rfl rfl rfl ?_
   refine JJ.regionEnd ?_
   refine JJ.region rfl fun rg => ?_
   refine JJ.loadL (v := .map (Option.some b19)) ty42 2 rg rfl rfl rfl rfl rfl ?_
   refine JJ.fieldAddr (a' := ⟨b30, 0, none⟩) fo44_0 rg rfl rfl rfl rfl ?_
   refine JJ.loadL (v := .string (x.name)) ty9 0 rg rfl rfl rfl rfl rfl ?_
   refine JJ.fieldAddr (a' := ⟨b30, 1, none⟩) fo44_1 rg rfl rfl rfl rfl ?_
   refine JJ.loadL (v := .slice (A27) ((x.body).length) (cp28)) ty23 0 rg rfl rfl rfl rfl rfl ?_
   refine JJ.mapUpdate sm42 1 rg rfl rfl rfl rfl rfl rfl rfl ?_
   dsimp only [List.set]
   refine JJ.regionEnd ?_
   refine JJ.inBlock ?_
   refine JJ.region rfl fun rg => ?_
   refine JJ.binI (z := ((i + 1 : Nat) : Int)) rg rfl rfl rfl rfl rfl (wrap_to (by omega) (by omega) (by omega)) ?_
   refine JJ.move rg rfl rfl rfl ?_
   refine JJ.regionEnd ?_
   refine JJ.drop ?_
   refine JJ.keep _ ?_ (ih (i + 1, m.set x.name (.slice (A27) ((x.body).length) (cp28))) ⟨hlt, by rw [pfOf_take hx]; exact hm.set hx29⟩ (by omega))
   repeat (first | exact trivial | refine ⟨rfl, ?_⟩)
  ·
   have hc5b := hc5
   replace hc5 := of_decide_eq_false hc5
   obtain rfl : i = p.procs.length := by omega
   rw [List.take_length] at hm
   refine JJ.freeze (Q := fun I => MapI I b19 m) (fun h s => s) (fun _ _ l r => r.mono l) fun I4 hle4 hmi => ?_
   have hpm : PM I4 b19 (pfOf p.procs) := PM.of hmi (hm.mono hle4)
   refine JJ.exit rfl ?_
   refine JJ.seq ?_
   refine JJ.region rfl fun rg => ?_
   refine JJ.alloc (cs := [.bool false]) zo4 rfl rg rfl rfl fun b31 => ?_
   refine JJ.store (cs' := [.bool true]) ty4 0 rg rfl rfl rfl rfl rfl rfl rfl rfl rfl rfl rfl ?_
   refine JJ.regionEnd ?_
   refine JJ.seq ?_
   refine JJ.region rfl fun rg => ?_
   refine JJ.makeFunc rg rfl rfl [].toArray [.pointer (some ⟨b20, 0, none⟩), .pointer (some ⟨b31, 0, none⟩)].toArray (fun a hE => by simp []) (fun a hE => by simp [hE.ev (o := .tmp 4) (v := .pointer (some ⟨b20, 0, none⟩)) rfl, hE.ev (o := .tmp 7) (v := .pointer (some ⟨b31, 0, none⟩)) rfl]) ?_
   refine JJ.assign rg rfl rfl rfl ?_
   refine JJ.regionEnd ?_
   refine JJ.seq ?_
   refine JJ.region rfl fun rg => ?_
   refine JJ.fieldAddr (a' := ⟨b13, 3, none⟩) fo26_3 rg rfl rfl rfl rfl ?_
   refine JJ.loadL (v := .slice (A10) ((p.oracles).length) (cp11)) ty24 2 rg rfl rfl rfl rfl rfl ?_
   refine JJ.build (cells := #[.slice (none) (0) (0), .slice (none) (0) (0), .slice (none) (0) (0), .slice (A10) ((p.oracles).length) (cp11)]) zo26 so26 rg rfl rfl rfl rfl ?_
   refine JJ.callp bo14 rg rfl rfl rfl rfl (clone _ _ (Pg.mk ([] : List Pc) ([] : List St) ([] : List St) p.oracles) (RP.mk RQs.nil RTs.nil RTs.nil (hx12.mono (hle18.trans hle4))) (by simp only [Pg.sz, Pc.szl, St.szl]; omega)) fun p34 I35 hle36 hp33 => ?_
   have hcs_ := hp33
   have hx37 := hp33
   (try dsimp only at hx37)
   obtain ⟨A38, cp39, A41, cp42, A44, cp45, A47, cp48, rfl, hx40, hx43, hx46, hx49⟩ := RP.open hx37
   refine JJ.alloc (cs := [.slice (none) (0) (0), .slice (none) (0) (0), .slice (none) (0) (0), .slice (none) (0) (0)]) zo26 rfl rg rfl rfl fun b50 => ?_
   refine JJ.store (cs' := [.slice (A38) ((([] : List Pc)).length) (cp39), .slice (A41) ((([] : List St)).length) (cp42), .slice (A44) ((([] : List St)).length) (cp45), .slice (A47) ((p.oracles).length) (cp48)]) ty26 0 rg rfl rfl rfl rfl rfl rfl rfl rfl rfl rfl rfl ?_
   refine JJ.regionEnd ?_
   refine JJ.seq ?_
   refine JJ.region rfl fun rg => ?_
   refine JJ.move rg rfl rfl rfl ?_
   refine JJ.fieldAddr (a' := ⟨b13, 1, none⟩) fo26_1 rg rfl rfl rfl rfl ?_
   refine JJ.loadL (v := .slice (A4) ((p.main).length) (cp5)) ty23 3 rg rfl rfl rfl rfl rfl ?_
   refine JJ.pull 4 rfl rfl ?_
   refine JJ.pull 4 rfl rfl ?_
   refine JJ.pull 2 rfl rfl ?_
   refine JJ.pull 3 rfl rfl ?_
   refine JJ.pull 4 rfl rfl ?_
   refine JJ.call (Lc := [_, _]) (Lr := [_, _, _]) bo12 rg rfl rfl rfl rfl (part b19 (p.sz + 2) (pfOf p.procs) (by omega) (fun s => by have := pf_sz (p := p) s; omega) (pf_ok hrt) _ b20 b31 true A4 cp5 p.main (hpm.mono hle36) (hx6.mono (hle18.trans (hle4.trans hle36))) (right_parts hrt (by simp [Pg.parts])) (by omega)) (fun _ q => q) fun ⟨Am, cm⟩ I51 hle52 hresm => ?_
   dsimp only [List.cons_append, List.nil_append] at hresm ⊢
   simp only [Bool.true_and]
   refine JJ.fieldAddr (a' := ⟨b50, 1, none⟩) fo26_1 rg rfl rfl rfl rfl ?_
   refine JJ.store (cs' := [.slice (A38) ((([] : List Pc)).length) (cp39), .slice (Am) (((F_blk (pfOf p.procs) 256 [] ⟨256, 0⟩ p.main).1).length) (cm), .slice (A44) ((([] : List St)).length) (cp45), .slice (A47) ((p.oracles).length) (cp48)]) ty23 2 rg rfl rfl rfl rfl rfl rfl rfl rfl rfl rfl rfl ?_
   refine JJ.regionEnd ?_
   refine JJ.seq ?_
   refine JJ.region rfl fun rg => ?_
   refine JJ.move rg rfl rfl rfl ?_
   refine JJ.fieldAddr (a' := ⟨b13, 2, none⟩) fo26_2 rg rfl rfl rfl rfl ?_
   refine JJ.loadL (v := .slice (A7) ((p.recover).length) (cp8)) ty23 3 rg rfl rfl rfl rfl rfl ?_
   refine JJ.call (Lc := [_, _]) (Lr := [_, _, _]) bo12 rg rfl rfl rfl rfl (part b19 (p.sz + 2) (pfOf p.procs) (by omega) (fun s => by have := pf_sz (p := p) s; omega) (pf_ok hrt) _ b20 b31 (decide (0 ≤ (F_blk (pfOf p.procs) 256 [] ⟨256, 0⟩ p.main).2.left)) A7 cp8 p.recover (hpm.mono (hle36.trans hle52)) (hx9.mono (hle18.trans (hle4.trans (hle36.trans hle52)))) (right_parts hrt (by simp [Pg.parts])) (by omega)) (fun _ q => q) fun ⟨Ar, cr⟩ I53 hle54 hresr => ?_
   dsimp only [List.cons_append, List.nil_append] at hresr ⊢
   refine JJ.fieldAddr (a' := ⟨b50, 2, none⟩) fo26_2 rg rfl rfl rfl rfl ?_
   refine JJ.store (cs' := [.slice (A38) ((([] : List Pc)).length) (cp39), .slice (Am) (((F_blk (pfOf p.procs) 256 [] ⟨256, 0⟩ p.main).1).length) (cm), .slice (Ar) (((F_blk (pfOf p.procs) 256 [] ⟨256, 0⟩ p.recover).1).length) (cr), .slice (A47) ((p.oracles).length) (cp48)]) ty23 2 rg rfl rfl rfl rfl rfl rfl rfl rfl rfl rfl rfl ?_
   refine JJ.regionEnd ?_
   refine JJ.seq ?_
   refine JJ.seq ?_
   refine JJ.cut (X := Hp) (fun _ => [(51, .bool (((!(and (decide (0 ≤ (F_blk (pfOf p.procs) 256 [] ⟨256, 0⟩ p.main).2.left)) (decide (0 ≤ (F_blk (pfOf p.procs) 256 [] ⟨256, 0⟩ p.recover).2.left)))) || (!decide ((((F_boundCheck (Pg.mk ([] : List Pc) (F_blk (pfOf p.procs) 256 [] ⟨256, 0⟩ p.main).1 (F_blk (pfOf p.procs) 256 [] ⟨256, 0⟩ p.recover).1 p.oracles))).1, ((F_boundCheck (Pg.mk ([] : List Pc) (F_blk (pfOf p.procs) 256 [] ⟨256, 0⟩ p.main).1 (F_blk (pfOf p.procs) 256 [] ⟨256, 0⟩ p.recover).1 p.oracles))).2) = ((0, 0) : Int × Int)))))), (2, .pointer (some ⟨b14, 0, none⟩)), (9, .pointer (some ⟨b50, 0, none⟩))]) (fun x => x) (fun _ => [blk b20 (.cells ([.map (Option.some b19)]).toArray 42), blk b31 (.cells ([.bool (and (decide (0 ≤ (F_blk (pfOf p.procs) 256 [] ⟨256, 0⟩ p.main).2.left)) (decide (0 ≤ (F_blk (pfOf p.procs) 256 [] ⟨256, 0⟩ p.recover).2.left)))]).toArray 4), blk b50 (.cells ([.slice (A38) ((([] : List Pc)).length) (cp39), .slice (Am) (((F_blk (pfOf p.procs) 256 [] ⟨256, 0⟩ p.main).1).length) (cm), .slice (Ar) (((F_blk (pfOf p.procs) 256 [] ⟨256, 0⟩ p.recover).1).length) (cr), .slice (A47) ((p.oracles).length) (cp48)]).toArray 26), blk b13 (.cells ([.slice (A1) ((p.procs).length) (cp2), .slice (A4) ((p.main).length) (cp5), .slice (A7) ((p.recover).length) (cp8), .slice (A10) ((p.oracles).length) (cp11)]).toArray 26), blk b14 (.cells ([.slice (none) (0) (0), .slice (none) (0) (0), .slice (none) (0) (0), .slice (none) (0) (0)]).toArray 26)]) (fun x => Hp.le (I53) x) (fun hk55 => ?_) ?_
   ·
    refine JJ.region rfl fun rg => ?_
    refine JJ.loadL (v := .bool (and (decide (0 ≤ (F_blk (pfOf p.procs) 256 [] ⟨256, 0⟩ p.main).2.left)) (decide (0 ≤ (F_blk (pfOf p.procs) 256 [] ⟨256, 0⟩ p.recover).2.left)))) ty4 1 rg rfl rfl rfl rfl rfl ?_
    refine JJ.not rg rfl rfl rfl ?_
    refine JJ.move rg rfl rfl rfl ?_
    refine JJ.split 46 rfl (fun hg14_3 => ?_) (fun hg14_3 => ?_)
    ·
     have hg14_3b := hg14_3
     replace hg14_3 := not_t hg14_3
     replace hg14_3b := hg14_3
     refine JJ.gskip rg rfl rfl ?_
     refine JJ.gskip rg rfl rfl ?_
     refine JJ.gskip rg rfl rfl ?_
     refine JJ.gskip rg rfl rfl ?_
     refine JJ.pick (b := true) rg rfl rfl rfl rfl ?_
     refine JJ.regionEnd ?_
     refine JJ.keep _ ?_ (hk55 _ (.refl _))
     exact ⟨congrArg (fun b => some (Value.bool b)) (by simp only [hg14_3b, xb0, xb1, xb2, xb3, xb4, xb5, xb6, xb7, xb8, xb9, xb10, xb11]), rfl, rfl, trivial⟩
    ·
     have hg14_3b := hg14_3
     replace hg14_3 := not_f hg14_3
     replace hg14_3b := hg14_3
     refine JJ.loadL (v := .agg #[.slice (A38) ((([] : List Pc)).length) (cp39), .slice (Am) (((F_blk (pfOf p.procs) 256 [] ⟨256, 0⟩ p.main).1).length) (cm), .slice (Ar) (((F_blk (pfOf p.procs) 256 [] ⟨256, 0⟩ p.recover).1).length) (cr), .slice (A47) ((p.oracles).length) (cp48)]) ty26 2 rg rfl rfl rfl rfl rfl ?_
     refine JJ.callp bo10 rg rfl rfl rfl rfl (boundCheck _ _ (Pg.mk ([] : List Pc) (F_blk (pfOf p.procs) 256 [] ⟨256, 0⟩ p.main).1 (F_blk (pfOf p.procs) 256 [] ⟨256, 0⟩ p.recover).1 p.oracles) (RP.mk (hx40.mono (hle52.trans hle54)) (hresm.mono hle54) hresr (hx49.mono (hle52.trans hle54))) (hgl.mono (hle18.trans (hle4.trans (hle36.trans (hle52.trans hle54))))) (by first | assumption | omega)) fun _ I60 hle61 _ => ?_
     refine JJ.build (cells := #[.int .i64 0, .int .i64 0]) zo39 so39 rg rfl rfl rfl rfl ?_
     refine JJ.nePair pt39 rg rfl rfl rfl rfl ?_
     refine JJ.pick (b := false) rg rfl rfl rfl rfl ?_
     refine JJ.regionEnd ?_
     refine JJ.keep _ ?_ (hk55 _ hle61)
     exact ⟨congrArg (fun b => some (Value.bool b)) (by simp only [hg14_3b, xb0, xb1, xb2, xb3, xb4, xb5, xb6, xb7, xb8, xb9, xb10, xb11]), rfl, rfl, trivial⟩
   ·
    intro I56 hle57
    refine JJ.cond2 rfl (fun hc14 => ?_) (fun hc14 => ?_)
    ·
     have hc14b := hc14
     refine JJ.seq ?_
     refine JJ.region rfl fun rg => ?_
     refine JJ.build (cells := #[.slice (none) (0) (0), .slice (none) (0) (0), .slice (none) (0) (0), .slice (none) (0) (0)]) zo26 so26 rg rfl rfl rfl rfl ?_
     refine JJ.store (cs' := [.slice (none) (0) (0), .slice (none) (0) (0), .slice (none) (0) (0), .slice (none) (0) (0)]) ty26 4 rg rfl rfl rfl rfl rfl rfl rfl rfl rfl rfl rfl ?_
     refine JJ.assign rg rfl rfl rfl ?_
     refine JJ.regionEnd ?_
     have hF : F_flat p = (Pg.mk ([] : List Pc) ([] : List St) ([] : List St) ([] : List Oc), false) := by simp only [F_flat, hc1b, hc5b, hc14b, xb0, xb1, xb2, xb3, xb4, xb5, xb6, xb7, xb8, xb9, xb10, xb11]
     refine JJ.retct (v := .agg #[.slice (none) (0) (0), .slice (none) (0) (0), .slice (none) (0) (0), .slice (none) (0) (0)]) ty26 4 rfl Try.func6 rfl rfl rfl rfl rfl (fun h h_ => ⟨[.slice (none) (0) (0), .slice (none) (0) (0), .slice (none) (0) (0), .slice (none) (0) (0)], (by rw [hF]; exact (RP.mk RQs.nil RTs.nil RTs.nil ROs.nil)), (by rw [hF]), trivial⟩)
    ·
     have hc14b := hc14
     refine JJ.skip ?_
     refine JJ.seq ?_
     refine JJ.region rfl fun rg => ?_
     refine JJ.loadL (v := .agg #[.slice (A38) ((([] : List Pc)).length) (cp39), .slice (Am) (((F_blk (pfOf p.procs) 256 [] ⟨256, 0⟩ p.main).1).length) (cm), .slice (Ar) (((F_blk (pfOf p.procs) 256 [] ⟨256, 0⟩ p.recover).1).length) (cr), .slice (A47) ((p.oracles).length) (cp48)]) ty26 2 rg rfl rfl rfl rfl rfl ?_
     refine JJ.store (cs' := [.slice (A38) ((([] : List Pc)).length) (cp39), .slice (Am) (((F_blk (pfOf p.procs) 256 [] ⟨256, 0⟩ p.main).1).length) (cm), .slice (Ar) (((F_blk (pfOf p.procs) 256 [] ⟨256, 0⟩ p.recover).1).length) (cr), .slice (A47) ((p.oracles).length) (cp48)]) ty26 4 rg rfl rfl rfl rfl rfl rfl rfl rfl rfl rfl rfl ?_
     refine JJ.assign rg rfl rfl rfl ?_
     refine JJ.regionEnd ?_
     have hF : F_flat p = (Pg.mk ([] : List Pc) (F_blk (pfOf p.procs) 256 [] ⟨256, 0⟩ p.main).1 (F_blk (pfOf p.procs) 256 [] ⟨256, 0⟩ p.recover).1 p.oracles, true) := by simp only [F_flat, hc1b, hc5b, hc14b, xb0, xb1, xb2, xb3, xb4, xb5, xb6, xb7, xb8, xb9, xb10, xb11]
     refine JJ.retct (v := .agg #[.slice (A38) ((([] : List Pc)).length) (cp39), .slice (Am) (((F_blk (pfOf p.procs) 256 [] ⟨256, 0⟩ p.main).1).length) (cm), .slice (Ar) (((F_blk (pfOf p.procs) 256 [] ⟨256, 0⟩ p.recover).1).length) (cr), .slice (A47) ((p.oracles).length) (cp48)]) ty26 4 rfl Try.func6 rfl rfl rfl rfl rfl (fun h h_ => ⟨[.slice (A38) ((([] : List Pc)).length) (cp39), .slice (Am) (((F_blk (pfOf p.procs) 256 [] ⟨256, 0⟩ p.main).1).length) (cm), .slice (Ar) (((F_blk (pfOf p.procs) 256 [] ⟨256, 0⟩ p.recover).1).length) (cr), .slice (A47) ((p.oracles).length) (cp48)], (by rw [hF]; exact (RP.mk (hx40.mono (hle52.trans (hle54.trans hle57))) (hresm.mono (hle54.trans hle57)) (hresr.mono hle57) (hx49.mono (hle52.trans (hle54.trans hle57))))), (by rw [hF]), trivial⟩)
def F_knows  : Bool :=
  (((F_flat (Pg.mk ([] : List Pc) ([St.mk 14 (⟨#[]⟩) 2 ([] : List Ex) ([St.mk 11 (⟨#[]⟩) 0 ([] : List Ex) ([] : List St) ([] : List St) false]) ([] : List St) false]) ([] : List St) ([] : List Oc))).2) && (((decide (((((((F_flat (Pg.mk ([] : List Pc) ([St.mk 14 (⟨#[]⟩) 2 ([] : List Ex) ([St.mk 11 (⟨#[]⟩) 0 ([] : List Ex) ([] : List St) ([] : List St) false]) ([] : List St) false]) ([] : List St) ([] : List Oc))).1).main).length : Nat) : Int) : Int) = 2)) && (((decide (((((((F_flat (Pg.mk ([] : List Pc) ([St.mk 14 (⟨#[]⟩) 2 ([] : List Ex) ([St.mk 11 (⟨#[]⟩) 0 ([] : List Ex) ([] : List St) ([] : List St) false]) ([] : List St) false]) ([] : List St) ([] : List Oc))).1).main).getD 0 default)).op : Int) = 13)) && (((decide ((((((((((F_flat (Pg.mk ([] : List Pc) ([St.mk 14 (⟨#[]⟩) 2 ([] : List Ex) ([St.mk 11 (⟨#[]⟩) 0 ([] : List Ex) ([] : List St) ([] : List St) false]) ([] : List St) false]) ([] : List St) ([] : List Oc))).1).main).getD 0 default)).body).length : Nat) : Int) : Int) = 1)) && (decide (((((((F_flat (Pg.mk ([] : List Pc) ([St.mk 14 (⟨#[]⟩) 2 ([] : List Ex) ([St.mk 11 (⟨#[]⟩) 0 ([] : List Ex) ([] : List St) ([] : List St) false]) ([] : List St) false]) ([] : List St) ([] : List Oc))).1).main).getD 1 default)).op : Int) = 13)))))))))
set_option maxHeartbeats 4000000 in
theorem knows (I : Hp) (hgl : GL 0 I) : Fn Try.prog 5 #[] I [] (Ret (X := Unit) (fun x_ I' => True) (fun x_ => .bool (F_knows)) fun _ => []) := by
 refine Fn.of (args := []) Try.func5 rfl rfl ?_
 refine JJ.seq ?_
 refine JJ.region rfl fun rg => ?_
 refine JJ.assign rg rfl rfl rfl ?_
 refine JJ.regionEnd ?_
 refine JJ.seq ?_
 refine JJ.region rfl fun rg => ?_
 refine JJ.build (cells := #[.int .i64 11, .string (⟨#[]⟩), .int .i64 0, .slice (none) (0) (0), .slice (none) (0) (0), .slice (none) (0) (0), .bool false]) zo35 so35 rg rfl rfl rfl rfl ?_
 refine JJ.buildSlice (cs := [.int .i64 11, .string (⟨#[]⟩), .int .i64 0, .slice (none) (0) (0), .slice (none) (0) (0), .slice (none) (0) (0), .bool false]) eo23 zo35 rg rfl rfl rfl rfl rfl rfl rfl fun b1 => ?_
 refine JJ.build (cells := #[.int .i64 14, .string (⟨#[]⟩), .int .i64 2, .slice (none) (0) (0), .slice (some ⟨b1, 0, none⟩) (1) (1), .slice (none) (0) (0), .bool false]) zo35 so35 rg rfl rfl rfl rfl ?_
 refine JJ.buildSlice (cs := [.int .i64 14, .string (⟨#[]⟩), .int .i64 2, .slice (none) (0) (0), .slice (some ⟨b1, 0, none⟩) (1) (1), .slice (none) (0) (0), .bool false]) eo23 zo35 rg rfl rfl rfl rfl rfl rfl rfl fun b2 => ?_
 refine JJ.build (cells := #[.slice (none) (0) (0), .slice (some ⟨b2, 0, none⟩) (1) (1), .slice (none) (0) (0), .slice (none) (0) (0)]) zo26 so26 rg rfl rfl rfl rfl ?_
 refine JJ.alloc (cs := [.slice (none) (0) (0), .slice (none) (0) (0), .slice (none) (0) (0), .slice (none) (0) (0)]) zo26 rfl rg rfl rfl fun b3 => ?_
 refine JJ.store (cs' := [.slice (none) (0) (0), .slice (some ⟨b2, 0, none⟩) (1) (1), .slice (none) (0) (0), .slice (none) (0) (0)]) ty26 0 rg rfl rfl rfl rfl rfl rfl rfl rfl rfl rfl rfl ?_
 refine JJ.regionEnd ?_
 refine JJ.seq ?_
 refine JJ.region rfl fun rg => ?_
 refine JJ.loadL (v := .agg #[.slice (none) (0) (0), .slice (some ⟨b2, 0, none⟩) (1) (1), .slice (none) (0) (0), .slice (none) (0) (0)]) ty26 0 rg rfl rfl rfl rfl rfl ?_
 (try dsimp only [List.set])
 refine JJ.pull 2 rfl rfl ?_
 refine JJ.share fun I4 hle5 hb6 => ?_
 have hrow7 : Row I4 ⟨b1, 0, none⟩ [.int .i64 11, .string (⟨#[]⟩), .int .i64 0, .slice (none) (0) (0), .slice (none) (0) (0), .slice (none) (0) (0), .bool false] := Row.of hb6 0
 clear hb6
 have hx8 : RTs I4 (some ⟨b1, 0, none⟩) ([St.mk 11 (⟨#[]⟩) 0 ([] : List Ex) ([] : List St) ([] : List St) false]).length 1 [St.mk 11 (⟨#[]⟩) 0 ([] : List Ex) ([] : List St) ([] : List St) false] := RSl.of (css := [[.int .i64 11, .string (⟨#[]⟩), .int .i64 0, .slice (none) (0) (0), .slice (none) (0) (0), .slice (none) (0) (0), .bool false]]) (.inr ⟨_, rfl, by simp, by simpa using hrow7⟩) rfl (.cons ⟨rfl, (RT.mk RXs.nil RTs.nil RTs.nil)⟩ .nil)
 (try dsimp only [List.set])
 refine JJ.pull 1 rfl rfl ?_
 refine JJ.share fun I9 hle10 hb11 => ?_
 have hrow12 : Row I9 ⟨b2, 0, none⟩ [.int .i64 14, .string (⟨#[]⟩), .int .i64 2, .slice (none) (0) (0), .slice (some ⟨b1, 0, none⟩) (1) (1), .slice (none) (0) (0), .bool false] := Row.of hb11 0
 clear hb11
 have hx13 : RTs I9 (some ⟨b2, 0, none⟩) ([St.mk 14 (⟨#[]⟩) 2 ([] : List Ex) ([St.mk 11 (⟨#[]⟩) 0 ([] : List Ex) ([] : List St) ([] : List St) false]) ([] : List St) false]).length 1 [St.mk 14 (⟨#[]⟩) 2 ([] : List Ex) ([St.mk 11 (⟨#[]⟩) 0 ([] : List Ex) ([] : List St) ([] : List St) false]) ([] : List St) false] := RSl.of (css := [[.int .i64 14, .string (⟨#[]⟩), .int .i64 2, .slice (none) (0) (0), .slice (some ⟨b1, 0, none⟩) (1) (1), .slice (none) (0) (0), .bool false]]) (.inr ⟨_, rfl, by simp, by simpa using hrow12⟩) rfl (.cons ⟨rfl, (RT.mk RXs.nil (hx8.mono hle10) RTs.nil)⟩ .nil)
 refine JJ.callp bo6 rg rfl rfl rfl rfl (flat _ _ (Pg.mk ([] : List Pc) ([St.mk 14 (⟨#[]⟩) 2 ([] : List Ex) ([St.mk 11 (⟨#[]⟩) 0 ([] : List Ex) ([] : List St) ([] : List St) false]) ([] : List St) false]) ([] : List St) ([] : List Oc)) (RP.mk RQs.nil hx13 RTs.nil ROs.nil) (hgl.mono (hle5.trans hle10)) (by decide) (by decide +kernel)) fun p16 I17 hle18 hp15 => ?_
 have hcs_ := hp15
 have hx19 := hp15
 (try dsimp only at hx19)
 refine JJ.move rg rfl rfl rfl ?_
 refine JJ.extract rg rfl rfl rfl rfl ?_
 refine JJ.extract rg rfl rfl rfl rfl ?_
 refine JJ.alloc (cs := [.slice (none) (0) (0), .slice (none) (0) (0), .slice (none) (0) (0), .slice (none) (0) (0)]) zo26 rfl rg rfl rfl fun b20 => ?_
 obtain ⟨A21, cp22, A24, cp25, A27, cp28, A30, cp31, rfl, hx23, hx26, hx29, hx32⟩ := RP.open hx19
 refine JJ.store (cs' := [.slice (A21) ((((F_flat (Pg.mk ([] : List Pc) ([St.mk 14 (⟨#[]⟩) 2 ([] : List Ex) ([St.mk 11 (⟨#[]⟩) 0 ([] : List Ex) ([] : List St) ([] : List St) false]) ([] : List St) false]) ([] : List St) ([] : List Oc))).1).procs).length) (cp22), .slice (A24) ((((F_flat (Pg.mk ([] : List Pc) ([St.mk 14 (⟨#[]⟩) 2 ([] : List Ex) ([St.mk 11 (⟨#[]⟩) 0 ([] : List Ex) ([] : List St) ([] : List St) false]) ([] : List St) false]) ([] : List St) ([] : List Oc))).1).main).length) (cp25), .slice (A27) ((((F_flat (Pg.mk ([] : List Pc) ([St.mk 14 (⟨#[]⟩) 2 ([] : List Ex) ([St.mk 11 (⟨#[]⟩) 0 ([] : List Ex) ([] : List St) ([] : List St) false]) ([] : List St) false]) ([] : List St) ([] : List Oc))).1).recover).length) (cp28), .slice (A30) ((((F_flat (Pg.mk ([] : List Pc) ([St.mk 14 (⟨#[]⟩) 2 ([] : List Ex) ([St.mk 11 (⟨#[]⟩) 0 ([] : List Ex) ([] : List St) ([] : List St) false]) ([] : List St) false]) ([] : List St) ([] : List Oc))).1).oracles).length) (cp31)]) ty26 0 rg rfl rfl rfl rfl rfl rfl rfl rfl rfl rfl rfl ?_
 refine JJ.assign rg rfl rfl rfl ?_
 refine JJ.regionEnd ?_
 refine JJ.seq ?_
 refine JJ.cut (X := Hp) (fun _ => [(0, .bool ((((F_flat (Pg.mk ([] : List Pc) ([St.mk 14 (⟨#[]⟩) 2 ([] : List Ex) ([St.mk 11 (⟨#[]⟩) 0 ([] : List Ex) ([] : List St) ([] : List St) false]) ([] : List St) false]) ([] : List St) ([] : List Oc))).2) && (((decide (((((((F_flat (Pg.mk ([] : List Pc) ([St.mk 14 (⟨#[]⟩) 2 ([] : List Ex) ([St.mk 11 (⟨#[]⟩) 0 ([] : List Ex) ([] : List St) ([] : List St) false]) ([] : List St) false]) ([] : List St) ([] : List Oc))).1).main).length : Nat) : Int) : Int) = 2)) && (((decide (((((((F_flat (Pg.mk ([] : List Pc) ([St.mk 14 (⟨#[]⟩) 2 ([] : List Ex) ([St.mk 11 (⟨#[]⟩) 0 ([] : List Ex) ([] : List St) ([] : List St) false]) ([] : List St) false]) ([] : List St) ([] : List Oc))).1).main).getD 0 default)).op : Int) = 13)) && (((decide ((((((((((F_flat (Pg.mk ([] : List Pc) ([St.mk 14 (⟨#[]⟩) 2 ([] : List Ex) ([St.mk 11 (⟨#[]⟩) 0 ([] : List Ex) ([] : List St) ([] : List St) false]) ([] : List St) false]) ([] : List St) ([] : List Oc))).1).main).getD 0 default)).body).length : Nat) : Int) : Int) = 1)) && (decide (((((((F_flat (Pg.mk ([] : List Pc) ([St.mk 14 (⟨#[]⟩) 2 ([] : List Ex) ([St.mk 11 (⟨#[]⟩) 0 ([] : List Ex) ([] : List St) ([] : List St) false]) ([] : List St) false]) ([] : List St) ([] : List Oc))).1).main).getD 1 default)).op : Int) = 13)))))))))))]) (fun x => x) (fun _ => [blk b20 (.cells ([.slice (A21) ((((F_flat (Pg.mk ([] : List Pc) ([St.mk 14 (⟨#[]⟩) 2 ([] : List Ex) ([St.mk 11 (⟨#[]⟩) 0 ([] : List Ex) ([] : List St) ([] : List St) false]) ([] : List St) false]) ([] : List St) ([] : List Oc))).1).procs).length) (cp22), .slice (A24) ((((F_flat (Pg.mk ([] : List Pc) ([St.mk 14 (⟨#[]⟩) 2 ([] : List Ex) ([St.mk 11 (⟨#[]⟩) 0 ([] : List Ex) ([] : List St) ([] : List St) false]) ([] : List St) false]) ([] : List St) ([] : List Oc))).1).main).length) (cp25), .slice (A27) ((((F_flat (Pg.mk ([] : List Pc) ([St.mk 14 (⟨#[]⟩) 2 ([] : List Ex) ([St.mk 11 (⟨#[]⟩) 0 ([] : List Ex) ([] : List St) ([] : List St) false]) ([] : List St) false]) ([] : List St) ([] : List Oc))).1).recover).length) (cp28), .slice (A30) ((((F_flat (Pg.mk ([] : List Pc) ([St.mk 14 (⟨#[]⟩) 2 ([] : List Ex) ([St.mk 11 (⟨#[]⟩) 0 ([] : List Ex) ([] : List St) ([] : List St) false]) ([] : List St) false]) ([] : List St) ([] : List Oc))).1).oracles).length) (cp31)]).toArray 26), blk b3 (.cells ([.slice (none) (0) (0), .slice (some ⟨b2, 0, none⟩) (1) (1), .slice (none) (0) (0), .slice (none) (0) (0)]).toArray 26)]) (fun x => Hp.le (I17) x) (fun hk33 => ?_) ?_
 ·
  refine JJ.region rfl fun rg => ?_
  refine JJ.move rg rfl rfl rfl ?_
  refine JJ.move rg rfl rfl rfl ?_
  refine JJ.split 15 rfl (fun hg3_2 => ?_) (fun hg3_2 => ?_)
  ·
   have hg3_2b := hg3_2
   refine JJ.fieldAddr (a' := ⟨b20, 1, none⟩) fo26_1 rg rfl rfl rfl rfl ?_
   refine JJ.loadL (v := .slice (A24) ((((F_flat (Pg.mk ([] : List Pc) ([St.mk 14 (⟨#[]⟩) 2 ([] : List Ex) ([St.mk 11 (⟨#[]⟩) 0 ([] : List Ex) ([] : List St) ([] : List St) false]) ([] : List St) false]) ([] : List St) ([] : List Oc))).1).main).length) (cp25)) ty23 0 rg rfl rfl rfl rfl rfl ?_
   refine JJ.lenSlice ss23 rg rfl rfl rfl ?_
   refine JJ.bin rg rfl rfl rfl rfl rfl ?_
   refine JJ.pick (b := true) rg rfl rfl rfl rfl ?_
   refine JJ.move rg rfl rfl rfl ?_
   refine JJ.split 21 rfl (fun hg3_8 => ?_) (fun hg3_8 => ?_)
   ·
    have hg3_8b := hg3_8
    replace hg3_8 := of_decide_eq_true hg3_8
    refine JJ.fieldAddr (a' := ⟨b20, 1, none⟩) fo26_1 rg rfl rfl rfl rfl ?_
    refine JJ.loadL (v := .slice (A24) ((((F_flat (Pg.mk ([] : List Pc) ([St.mk 14 (⟨#[]⟩) 2 ([] : List Ex) ([St.mk 11 (⟨#[]⟩) 0 ([] : List Ex) ([] : List St) ([] : List St) false]) ([] : List St) false]) ([] : List St) ([] : List Oc))).1).main).length) (cp25)) ty23 0 rg rfl rfl rfl rfl rfl ?_
    have hd36 := getD_some (l := ((F_flat (Pg.mk ([] : List Pc) ([St.mk 14 (⟨#[]⟩) 2 ([] : List Ex) ([St.mk 11 (⟨#[]⟩) 0 ([] : List Ex) ([] : List St) ([] : List St) false]) ([] : List St) false]) ([] : List St) ([] : List Oc))).1).main) (i := 0) (by omega)
    have hz37 := St.szl_mem (List.mem_of_getElem? hd36)
    have hy38 := St.sz_eq ((((F_flat (Pg.mk ([] : List Pc) ([St.mk 14 (⟨#[]⟩) 2 ([] : List Ex) ([St.mk 11 (⟨#[]⟩) 0 ([] : List Ex) ([] : List St) ([] : List St) false]) ([] : List St) false]) ([] : List St) ([] : List Oc))).1).main).getD 0 default)
    have hl39 := Ex.szl_len (((((F_flat (Pg.mk ([] : List Pc) ([St.mk 14 (⟨#[]⟩) 2 ([] : List Ex) ([St.mk 11 (⟨#[]⟩) 0 ([] : List Ex) ([] : List St) ([] : List St) false]) ([] : List St) false]) ([] : List St) ([] : List Oc))).1).main).getD 0 default)).e
    have hl40 := St.szl_len (((((F_flat (Pg.mk ([] : List Pc) ([St.mk 14 (⟨#[]⟩) 2 ([] : List Ex) ([St.mk 11 (⟨#[]⟩) 0 ([] : List Ex) ([] : List St) ([] : List St) false]) ([] : List St) false]) ([] : List St) ([] : List Oc))).1).main).getD 0 default)).body
    have hl41 := St.szl_len (((((F_flat (Pg.mk ([] : List Pc) ([St.mk 14 (⟨#[]⟩) 2 ([] : List Ex) ([St.mk 11 (⟨#[]⟩) 0 ([] : List Ex) ([] : List St) ([] : List St) false]) ([] : List St) false]) ([] : List St) ([] : List Oc))).1).main).getD 0 default)).els
    obtain ⟨a42, cs43, hA44, hcap45, -, hre46, hrow47⟩ := RSl.get hx26 hd36
    have hlthd36 := (List.getElem?_eq_some_iff.1 hd36).1
    obtain ⟨A48, cp49, A51, cp52, A54, cp55, rfl, hx50, hx53, hx56⟩ := RT.open hre46
    refine JJ.indexAddrA hA44 (a' := a42.add (0 * 7)) eo23 rg rfl rfl rfl rfl (by omega) (by omega) rfl ?_
    refine JJ.fieldAddr (a' := (a42.add (0 * 7)).add 0) fo35_0 rg rfl rfl rfl rfl ?_
    refine JJ.loadI (v := .int .i64 ((((((F_flat (Pg.mk ([] : List Pc) ([St.mk 14 (⟨#[]⟩) 2 ([] : List Ex) ([St.mk 11 (⟨#[]⟩) 0 ([] : List Ex) ([] : List St) ([] : List St) false]) ([] : List St) false]) ([] : List St) ([] : List Oc))).1).main).getD 0 default)).op)) ty3 rg rfl rfl rfl (Row.drop hrow47 0) rfl ?_
    refine JJ.bin rg rfl rfl rfl rfl rfl ?_
    refine JJ.pick (b := true) rg rfl rfl rfl rfl ?_
    refine JJ.move rg rfl rfl rfl ?_
    refine JJ.split 29 rfl (fun hg3_16 => ?_) (fun hg3_16 => ?_)
    ·
     have hg3_16b := hg3_16
     replace hg3_16 := of_decide_eq_true hg3_16
     refine JJ.fieldAddr (a' := ⟨b20, 1, none⟩) fo26_1 rg rfl rfl rfl rfl ?_
     refine JJ.loadL (v := .slice (A24) ((((F_flat (Pg.mk ([] : List Pc) ([St.mk 14 (⟨#[]⟩) 2 ([] : List Ex) ([St.mk 11 (⟨#[]⟩) 0 ([] : List Ex) ([] : List St) ([] : List St) false]) ([] : List St) false]) ([] : List St) ([] : List Oc))).1).main).length) (cp25)) ty23 0 rg rfl rfl rfl rfl rfl ?_
     refine JJ.indexAddrA hA44 (a' := a42.add (0 * 7)) eo23 rg rfl rfl rfl rfl (by omega) (by omega) rfl ?_
     refine JJ.fieldAddr (a' := (a42.add (0 * 7)).add 4) fo35_4 rg rfl rfl rfl rfl ?_
     refine JJ.loadI (v := .slice (A51) (((((((F_flat (Pg.mk ([] : List Pc) ([St.mk 14 (⟨#[]⟩) 2 ([] : List Ex) ([St.mk 11 (⟨#[]⟩) 0 ([] : List Ex) ([] : List St) ([] : List St) false]) ([] : List St) false]) ([] : List St) ([] : List Oc))).1).main).getD 0 default)).body).length) (cp52)) ty23 rg rfl rfl rfl (Row.drop hrow47 4) rfl ?_
     refine JJ.lenSlice ss23 rg rfl rfl rfl ?_
     refine JJ.bin rg rfl rfl rfl rfl rfl ?_
     refine JJ.pick (b := true) rg rfl rfl rfl rfl ?_
     refine JJ.move rg rfl rfl rfl ?_
     refine JJ.split 38 rfl (fun hg3_25 => ?_) (fun hg3_25 => ?_)
     ·
      have hg3_25b := hg3_25
      replace hg3_25 := of_decide_eq_true hg3_25
      refine JJ.fieldAddr (a' := ⟨b20, 1, none⟩) fo26_1 rg rfl rfl rfl rfl ?_
      refine JJ.loadL (v := .slice (A24) ((((F_flat (Pg.mk ([] : List Pc) ([St.mk 14 (⟨#[]⟩) 2 ([] : List Ex) ([St.mk 11 (⟨#[]⟩) 0 ([] : List Ex) ([] : List St) ([] : List St) false]) ([] : List St) false]) ([] : List St) ([] : List Oc))).1).main).length) (cp25)) ty23 0 rg rfl rfl rfl rfl rfl ?_
      have hd57 := getD_some (l := ((F_flat (Pg.mk ([] : List Pc) ([St.mk 14 (⟨#[]⟩) 2 ([] : List Ex) ([St.mk 11 (⟨#[]⟩) 0 ([] : List Ex) ([] : List St) ([] : List St) false]) ([] : List St) false]) ([] : List St) ([] : List Oc))).1).main) (i := 1) (by omega)
      have hz58 := St.szl_mem (List.mem_of_getElem? hd57)
      have hy59 := St.sz_eq ((((F_flat (Pg.mk ([] : List Pc) ([St.mk 14 (⟨#[]⟩) 2 ([] : List Ex) ([St.mk 11 (⟨#[]⟩) 0 ([] : List Ex) ([] : List St) ([] : List St) false]) ([] : List St) false]) ([] : List St) ([] : List Oc))).1).main).getD 1 default)
      have hl60 := Ex.szl_len (((((F_flat (Pg.mk ([] : List Pc) ([St.mk 14 (⟨#[]⟩) 2 ([] : List Ex) ([St.mk 11 (⟨#[]⟩) 0 ([] : List Ex) ([] : List St) ([] : List St) false]) ([] : List St) false]) ([] : List St) ([] : List Oc))).1).main).getD 1 default)).e
      have hl61 := St.szl_len (((((F_flat (Pg.mk ([] : List Pc) ([St.mk 14 (⟨#[]⟩) 2 ([] : List Ex) ([St.mk 11 (⟨#[]⟩) 0 ([] : List Ex) ([] : List St) ([] : List St) false]) ([] : List St) false]) ([] : List St) ([] : List Oc))).1).main).getD 1 default)).body
      have hl62 := St.szl_len (((((F_flat (Pg.mk ([] : List Pc) ([St.mk 14 (⟨#[]⟩) 2 ([] : List Ex) ([St.mk 11 (⟨#[]⟩) 0 ([] : List Ex) ([] : List St) ([] : List St) false]) ([] : List St) false]) ([] : List St) ([] : List Oc))).1).main).getD 1 default)).els
      obtain ⟨a63, cs64, hA65, hcap66, -, hre67, hrow68⟩ := RSl.get hx26 hd57
      have hlthd57 := (List.getElem?_eq_some_iff.1 hd57).1
      obtain ⟨A69, cp70, A72, cp73, A75, cp76, rfl, hx71, hx74, hx77⟩ := RT.open hre67
      refine JJ.indexAddrA hA65 (a' := a63.add (1 * 7)) eo23 rg rfl rfl rfl rfl (by omega) (by omega) rfl ?_
      refine JJ.fieldAddr (a' := (a63.add (1 * 7)).add 0) fo35_0 rg rfl rfl rfl rfl ?_
      refine JJ.loadI (v := .int .i64 ((((((F_flat (Pg.mk ([] : List Pc) ([St.mk 14 (⟨#[]⟩) 2 ([] : List Ex) ([St.mk 11 (⟨#[]⟩) 0 ([] : List Ex) ([] : List St) ([] : List St) false]) ([] : List St) false]) ([] : List St) ([] : List Oc))).1).main).getD 1 default)).op)) ty3 rg rfl rfl rfl (Row.drop hrow68 0) rfl ?_
      refine JJ.bin rg rfl rfl rfl rfl rfl ?_
      refine JJ.pick (b := true) rg rfl rfl rfl rfl ?_
      refine JJ.assign rg rfl rfl rfl ?_
      refine JJ.regionEnd ?_
      refine JJ.keep _ ?_ (hk33 _ (.refl _))
      exact ⟨congrArg (fun b => some (Value.bool b)) (by simp only [hg3_2b, hg3_8b, hg3_16b, hg3_25b, xb0, xb1, xb2, xb3, xb4, xb5, xb6, xb7, xb8, xb9, xb10, xb11]), trivial⟩
     ·
      have hg3_25b := hg3_25
      replace hg3_25 := of_decide_eq_false hg3_25
      refine JJ.gskip rg rfl rfl ?_
      refine JJ.gskip rg rfl rfl ?_
      refine JJ.gskip rg rfl rfl ?_
      refine JJ.gskip rg rfl rfl ?_
      refine JJ.gskip rg rfl rfl ?_
      refine JJ.gskip rg rfl rfl ?_
      refine JJ.pick (b := false) rg rfl rfl rfl rfl ?_
      refine JJ.assign rg rfl rfl rfl ?_
      refine JJ.regionEnd ?_
      refine JJ.keep _ ?_ (hk33 _ (.refl _))
      exact ⟨congrArg (fun b => some (Value.bool b)) (by simp only [hg3_2b, hg3_8b, hg3_16b, hg3_25b, xb0, xb1, xb2, xb3, xb4, xb5, xb6, xb7, xb8, xb9, xb10, xb11]), trivial⟩
    ·
     have hg3_16b := hg3_16
     replace hg3_16 := of_decide_eq_false hg3_16
     refine JJ.gskip rg rfl rfl ?_
     refine JJ.gskip rg rfl rfl ?_
     refine JJ.gskip rg rfl rfl ?_
     refine JJ.gskip rg rfl rfl ?_
     refine JJ.gskip rg rfl rfl ?_
     refine JJ.gskip rg rfl rfl ?_
     refine JJ.gskip rg rfl rfl ?_
     refine JJ.pick (b := false) rg rfl rfl rfl rfl ?_
     refine JJ.move rg rfl rfl rfl ?_
     refine JJ.gskip rg rfl rfl ?_
     refine JJ.gskip rg rfl rfl ?_
     refine JJ.gskip rg rfl rfl ?_
     refine JJ.gskip rg rfl rfl ?_
     refine JJ.gskip rg rfl rfl ?_
     refine JJ.gskip rg rfl rfl ?_
     refine JJ.pick (b := false) rg rfl rfl rfl rfl ?_
     refine JJ.assign rg rfl rfl rfl ?_
     refine JJ.regionEnd ?_
     refine JJ.keep _ ?_ (hk33 _ (.refl _))
     exact ⟨congrArg (fun b => some (Value.bool b)) (by simp only [hg3_2b, hg3_8b, hg3_16b, xb0, xb1, xb2, xb3, xb4, xb5, xb6, xb7, xb8, xb9, xb10, xb11]), trivial⟩
   ·
    have hg3_8b := hg3_8
    replace hg3_8 := of_decide_eq_false hg3_8
    refine JJ.gskip rg rfl rfl ?_
    refine JJ.gskip rg rfl rfl ?_
    refine JJ.gskip rg rfl rfl ?_
    refine JJ.gskip rg rfl rfl ?_
    refine JJ.gskip rg rfl rfl ?_
    refine JJ.gskip rg rfl rfl ?_
    refine JJ.pick (b := false) rg rfl rfl rfl rfl ?_
    refine JJ.move rg rfl rfl rfl ?_
    refine JJ.gskip rg rfl rfl ?_
    refine JJ.gskip rg rfl rfl ?_
    refine JJ.gskip rg rfl rfl ?_
    refine JJ.gskip rg rfl rfl ?_
    refine JJ.gskip rg rfl rfl ?_
    refine JJ.gskip rg rfl rfl ?_
    refine JJ.gskip rg rfl rfl ?_
    refine JJ.pick (b := false) rg rfl rfl rfl rfl ?_
    refine JJ.move rg rfl rfl rfl ?_
    refine JJ.gskip rg rfl rfl ?_
    refine JJ.gskip rg rfl rfl ?_
    refine JJ.gskip rg rfl rfl ?_
    refine JJ.gskip rg rfl rfl ?_
    refine JJ.gskip rg rfl rfl ?_
    refine JJ.gskip rg rfl rfl ?_
    refine JJ.pick (b := false) rg rfl rfl rfl rfl ?_
    refine JJ.assign rg rfl rfl rfl ?_
    refine JJ.regionEnd ?_
    refine JJ.keep _ ?_ (hk33 _ (.refl _))
    exact ⟨congrArg (fun b => some (Value.bool b)) (by simp only [hg3_2b, hg3_8b, xb0, xb1, xb2, xb3, xb4, xb5, xb6, xb7, xb8, xb9, xb10, xb11]), trivial⟩
  ·
   have hg3_2b := hg3_2
   refine JJ.gskip rg rfl rfl ?_
   refine JJ.gskip rg rfl rfl ?_
   refine JJ.gskip rg rfl rfl ?_
   refine JJ.gskip rg rfl rfl ?_
   refine JJ.pick (b := false) rg rfl rfl rfl rfl ?_
   refine JJ.move rg rfl rfl rfl ?_
   refine JJ.gskip rg rfl rfl ?_
   refine JJ.gskip rg rfl rfl ?_
   refine JJ.gskip rg rfl rfl ?_
   refine JJ.gskip rg rfl rfl ?_
   refine JJ.gskip rg rfl rfl ?_
   refine JJ.gskip rg rfl rfl ?_
   refine JJ.pick (b := false) rg rfl rfl rfl rfl ?_
   refine JJ.move rg rfl rfl rfl ?_
   refine JJ.gskip rg rfl rfl ?_
   refine JJ.gskip rg rfl rfl ?_
   refine JJ.gskip rg rfl rfl ?_
   refine JJ.gskip rg rfl rfl ?_
   refine JJ.gskip rg rfl rfl ?_
   refine JJ.gskip rg rfl rfl ?_
   refine JJ.gskip rg rfl rfl ?_
   refine JJ.pick (b := false) rg rfl rfl rfl rfl ?_
   refine JJ.move rg rfl rfl rfl ?_
   refine JJ.gskip rg rfl rfl ?_
   refine JJ.gskip rg rfl rfl ?_
   refine JJ.gskip rg rfl rfl ?_
   refine JJ.gskip rg rfl rfl ?_
   refine JJ.gskip rg rfl rfl ?_
   refine JJ.gskip rg rfl rfl ?_
   refine JJ.pick (b := false) rg rfl rfl rfl rfl ?_
   refine JJ.assign rg rfl rfl rfl ?_
   refine JJ.regionEnd ?_
   refine JJ.keep _ ?_ (hk33 _ (.refl _))
   exact ⟨congrArg (fun b => some (Value.bool b)) (by simp only [hg3_2b, xb0, xb1, xb2, xb3, xb4, xb5, xb6, xb7, xb8, xb9, xb10, xb11]), trivial⟩
 ·
  intro I34 hle35
  have hF : F_knows = (((F_flat (Pg.mk ([] : List Pc) ([St.mk 14 (⟨#[]⟩) 2 ([] : List Ex) ([St.mk 11 (⟨#[]⟩) 0 ([] : List Ex) ([] : List St) ([] : List St) false]) ([] : List St) false]) ([] : List St) ([] : List Oc))).2) && (((decide (((((((F_flat (Pg.mk ([] : List Pc) ([St.mk 14 (⟨#[]⟩) 2 ([] : List Ex) ([St.mk 11 (⟨#[]⟩) 0 ([] : List Ex) ([] : List St) ([] : List St) false]) ([] : List St) false]) ([] : List St) ([] : List Oc))).1).main).length : Nat) : Int) : Int) = 2)) && (((decide (((((((F_flat (Pg.mk ([] : List Pc) ([St.mk 14 (⟨#[]⟩) 2 ([] : List Ex) ([St.mk 11 (⟨#[]⟩) 0 ([] : List Ex) ([] : List St) ([] : List St) false]) ([] : List St) false]) ([] : List St) ([] : List Oc))).1).main).getD 0 default)).op : Int) = 13)) && (((decide ((((((((((F_flat (Pg.mk ([] : List Pc) ([St.mk 14 (⟨#[]⟩) 2 ([] : List Ex) ([St.mk 11 (⟨#[]⟩) 0 ([] : List Ex) ([] : List St) ([] : List St) false]) ([] : List St) false]) ([] : List St) ([] : List Oc))).1).main).getD 0 default)).body).length : Nat) : Int) : Int) = 1)) && (decide (((((((F_flat (Pg.mk ([] : List Pc) ([St.mk 14 (⟨#[]⟩) 2 ([] : List Ex) ([St.mk 11 (⟨#[]⟩) 0 ([] : List Ex) ([] : List St) ([] : List St) false]) ([] : List St) false]) ([] : List St) ([] : List Oc))).1).main).getD 1 default)).op : Int) = 13))))))))) := by simp only [F_knows, xb0, xb1, xb2, xb3, xb4, xb5, xb6, xb7, xb8, xb9, xb10, xb11]
  refine JJ.ret1 rfl Try.func5 rfl rfl (fun h h_ => ⟨(), trivial, (by rw [hF]), trivial⟩)
theorem knows_true : F_knows = true := by decide +kernel
theorem part_sz {p : Pg} (hz : p.sz ≤ 4194304) : (flatQ p).sz ≤ 2156921856 := by
  have hy : p.sz = Pc.szl p.procs + St.szl p.main + St.szl p.recover + Oc.szl p.oracles := rfl
  have key := F_blk_fit (C := p.sz + 2) (pf := pfOf p.procs) (by omega) (fun s => by have := pf_sz (p := p) s; omega) 256 (Nat.le_refl _) []
  have h1 := (key ⟨256, 0⟩ p.main ⟨by decide, by decide, by decide, by decide⟩ (by omega)).sz
  have h2 := (key ⟨256, 0⟩ p.recover ⟨by decide, by decide, by decide, by decide⟩ (by omega)).sz
  have e : (flatQ p).sz = Pc.szl [] + St.szl (F_blk (pfOf p.procs) 256 [] ⟨256, 0⟩ p.main).1 + St.szl (F_blk (pfOf p.procs) 256 [] ⟨256, 0⟩ p.recover).1 + Oc.szl p.oracles := rfl
  rw [e, show Pc.szl [] = 0 from rfl]
  have e3 : ((⟨256, 0⟩ : WS).left).toNat = 256 := rfl
  rw [e3] at h1 h2
  omega
def F_flatPlain_l0  : List St → Sum (Bool) (Unit)
  | [] => .inr ()
  | d81 :: LREST => bif decide ((d81.op : Int) = 15) then (.inl false) else (bif decide ((d81.op : Int) = 14) then (.inl false) else (F_flatPlain_l0 LREST))
def F_flatPlain (p : Pg) : Bool :=
  bif ((!(F_small p)) || (!F_knows)) then (F_knows) else (bif !((F_flat p).2) then (F_same ((F_flat p).1) (Pg.mk ([] : List Pc) ([] : List St) ([] : List St) ([] : List Oc))) else ((match F_flatPlain_l0 (Pg.alls ((F_flat p).1)) with | .inl r_ => r_ | .inr () => (((F_flat ((F_flat p).1)).2) && (((F_same ((F_flat ((F_flat p).1)).1) ((F_flat p).1)) && (((decide (((((((F_flat p).1).procs).length : Nat) : Int) : Int) = 0)) && (((F_lawFault (((F_boundCheck ((F_flat p).1))).1, ((F_boundCheck ((F_flat p).1))).2) (0, 0)) && (((F_lawFault (((F_boundCheck p)).1, ((F_boundCheck p)).2) (0, 0)) && (F_same (Pg.mk ([] : List Pc) ([] : List St) ([] : List St) p.oracles) (Pg.mk ([] : List Pc) ([] : List St) ([] : List St) ((F_flat p).1).oracles))))))))))))))
set_option maxHeartbeats 4000000 in
theorem flatPlain (I : Hp) (cs_p : List Value) (p : Pg) (h_p : RP I cs_p p) (hgl : GL 0 I) (hz : p.sz ≤ 4294967280) (hz1 : (flatQ p).sz ≤ 4294967280) (hz2 : (F_flat p).1.sz ≤ 4294967280) (hz3 : (flatQ (F_flat p).1).sz ≤ 4294967280) (hz4 : (F_flat (F_flat p).1).1.sz ≤ 4294967280) : Fn Try.prog 3 #[.agg (cs_p).toArray] I [] (Ret (X := Unit) (fun x_ I' => True) (fun x_ => .bool (F_flatPlain p)) fun _ => []) := by
 have hy_p : p.sz = Pc.szl p.procs + St.szl p.main + St.szl p.recover + Oc.szl p.oracles := rfl
 have hl1_p := Pc.szl_len p.procs
 have hl2_p := Oc.szl_len p.oracles
 have hl3_p := St.szl_len p.main
 have hl4_p := St.szl_len p.recover
 have hy_q : (F_flat p).1.sz = Pc.szl (F_flat p).1.procs + St.szl (F_flat p).1.main + St.szl (F_flat p).1.recover + Oc.szl (F_flat p).1.oracles := rfl
 obtain ⟨A1, cp2, A4, cp5, A7, cp8, A10, cp11, rfl, hx3, hx6, hx9, hx12⟩ := RP.open h_p
 refine Fn.of (args := [_]) Try.func3 rfl rfl ?_
 refine JJ.seq ?_
 refine JJ.region rfl fun rg => ?_
 refine JJ.box (cs := [.slice (A1) ((p.procs).length) (cp2), .slice (A4) ((p.main).length) (cp5), .slice (A7) ((p.recover).length) (cp8), .slice (A10) ((p.oracles).length) (cp11)]) rg rfl rfl rfl rfl fun b13 => ?_
 refine JJ.assign rg rfl rfl rfl ?_
 refine JJ.regionEnd ?_
 refine JJ.seq ?_
 refine JJ.seq ?_
 refine JJ.cut (X := Hp) (fun _ => [(15, .bool (((!(F_small p)) || (!F_knows)))), (1, .pointer (some ⟨b13, 0, none⟩))]) (fun x => x) (fun _ => [blk b13 (.cells ([.slice (A1) ((p.procs).length) (cp2), .slice (A4) ((p.main).length) (cp5), .slice (A7) ((p.recover).length) (cp8), .slice (A10) ((p.oracles).length) (cp11)]).toArray 26)]) (fun x => Hp.le (I) x) (fun hk14 => ?_) ?_
 ·
  refine JJ.region rfl fun rg => ?_
  refine JJ.loadL (v := .agg #[.slice (A1) ((p.procs).length) (cp2), .slice (A4) ((p.main).length) (cp5), .slice (A7) ((p.recover).length) (cp8), .slice (A10) ((p.oracles).length) (cp11)]) ty26 0 rg rfl rfl rfl rfl rfl ?_
  refine JJ.callp bo4 rg rfl rfl rfl rfl (small _ _ p h_p (by first | assumption | omega)) fun _ I19 hle20 _ => ?_
  refine JJ.not rg rfl rfl rfl ?_
  refine JJ.move rg rfl rfl rfl ?_
  refine JJ.split 12 rfl (fun hg1_4 => ?_) (fun hg1_4 => ?_)
  ·
   have hg1_4b := hg1_4
   replace hg1_4 := not_t hg1_4
   replace hg1_4b := hg1_4
   refine JJ.gskip rg rfl rfl ?_
   refine JJ.gskip rg rfl rfl ?_
   refine JJ.pick (b := true) rg rfl rfl rfl rfl ?_
   refine JJ.regionEnd ?_
   refine JJ.keep _ ?_ (hk14 _ hle20)
   exact ⟨congrArg (fun b => some (Value.bool b)) (by simp only [hg1_4b, xb0, xb1, xb2, xb3, xb4, xb5, xb6, xb7, xb8, xb9, xb10, xb11]), rfl, trivial⟩
  ·
   have hg1_4b := hg1_4
   replace hg1_4 := not_f hg1_4
   replace hg1_4b := hg1_4
   refine JJ.callp bo5 rg rfl rfl rfl rfl (knows _  (hgl.mono hle20)) fun _ I23 hle24 _ => ?_
   refine JJ.not rg rfl rfl rfl ?_
   refine JJ.pick (b := false) rg rfl rfl rfl rfl ?_
   refine JJ.regionEnd ?_
   refine JJ.keep _ ?_ (hk14 _ (hle20.trans hle24))
   exact ⟨congrArg (fun b => some (Value.bool b)) (by simp only [hg1_4b, xb0, xb1, xb2, xb3, xb4, xb5, xb6, xb7, xb8, xb9, xb10, xb11]), rfl, trivial⟩
 ·
  intro I15 hle16
  refine JJ.cond2 rfl (fun hc1 => ?_) (fun hc1 => ?_)
  ·
   have hc1b := hc1
   refine JJ.seq ?_
   refine JJ.region rfl fun rg => ?_
   refine JJ.callp bo5 rg rfl rfl rfl rfl (knows _  (hgl.mono hle16)) fun _ I27 hle28 _ => ?_
   refine JJ.assign rg rfl rfl rfl ?_
   refine JJ.regionEnd ?_
   have hF : F_flatPlain p = F_knows := by simp only [F_flatPlain, hc1b, xb0, xb1, xb2, xb3, xb4, xb5, xb6, xb7, xb8, xb9, xb10, xb11]
   refine JJ.ret1 rfl Try.func3 rfl rfl (fun h h_ => ⟨(), trivial, (by rw [hF]), trivial⟩)
  ·
   have hc1b := hc1
   refine JJ.skip ?_
   refine JJ.seq ?_
   refine JJ.region rfl fun rg => ?_
   refine JJ.loadL (v := .agg #[.slice (A1) ((p.procs).length) (cp2), .slice (A4) ((p.main).length) (cp5), .slice (A7) ((p.recover).length) (cp8), .slice (A10) ((p.oracles).length) (cp11)]) ty26 0 rg rfl rfl rfl rfl rfl ?_
   refine JJ.callp bo6 rg rfl rfl rfl rfl (flat _ _ p (h_p.mono hle16) (hgl.mono hle16) hz hz1) fun p31 I32 hle33 hp30 => ?_
   have hcs_ := hp30
   have hx34 := hp30
   (try dsimp only at hx34)
   refine JJ.move rg rfl rfl rfl ?_
   refine JJ.extract rg rfl rfl rfl rfl ?_
   refine JJ.extract rg rfl rfl rfl rfl ?_
   refine JJ.alloc (cs := [.slice (none) (0) (0), .slice (none) (0) (0), .slice (none) (0) (0), .slice (none) (0) (0)]) zo26 rfl rg rfl rfl fun b35 => ?_
   obtain ⟨A36, cp37, A39, cp40, A42, cp43, A45, cp46, rfl, hx38, hx41, hx44, hx47⟩ := RP.open hx34
   refine JJ.store (cs' := [.slice (A36) ((((F_flat p).1).procs).length) (cp37), .slice (A39) ((((F_flat p).1).main).length) (cp40), .slice (A42) ((((F_flat p).1).recover).length) (cp43), .slice (A45) ((((F_flat p).1).oracles).length) (cp46)]) ty26 0 rg rfl rfl rfl rfl rfl rfl rfl rfl rfl rfl rfl ?_
   refine JJ.assign rg rfl rfl rfl ?_
   refine JJ.regionEnd ?_
   refine JJ.seq ?_
   refine JJ.seq ?_
   refine JJ.region rfl fun rg => ?_
   refine JJ.move rg rfl rfl rfl ?_
   refine JJ.not rg rfl rfl rfl ?_
   refine JJ.regionEnd ?_
   refine JJ.cond2 rfl (fun hc4 => ?_) (fun hc4 => ?_)
   ·
    have hc4b := hc4
    replace hc4 := not_t hc4
    replace hc4b := hc4
    refine JJ.seq ?_
    refine JJ.region rfl fun rg => ?_
    refine JJ.loadL (v := .agg #[.slice (A36) ((((F_flat p).1).procs).length) (cp37), .slice (A39) ((((F_flat p).1).main).length) (cp40), .slice (A42) ((((F_flat p).1).recover).length) (cp43), .slice (A45) ((((F_flat p).1).oracles).length) (cp46)]) ty26 0 rg rfl rfl rfl rfl rfl ?_
    refine JJ.build (cells := #[.slice (none) (0) (0), .slice (none) (0) (0), .slice (none) (0) (0), .slice (none) (0) (0)]) zo26 so26 rg rfl rfl rfl rfl ?_
    refine JJ.callp bo7 rg rfl rfl rfl rfl (same _ _ ((F_flat p).1) hx34 _ (Pg.mk ([] : List Pc) ([] : List St) ([] : List St) ([] : List Oc)) (RP.mk RQs.nil RTs.nil RTs.nil ROs.nil) (by omega) (by decide)) fun _ I50 hle51 _ => ?_
    refine JJ.assign rg rfl rfl rfl ?_
    refine JJ.regionEnd ?_
    have hF : F_flatPlain p = F_same ((F_flat p).1) (Pg.mk ([] : List Pc) ([] : List St) ([] : List St) ([] : List Oc)) := by simp only [F_flatPlain, hc1b, hc4b, xb0, xb1, xb2, xb3, xb4, xb5, xb6, xb7, xb8, xb9, xb10, xb11]
    refine JJ.ret1 rfl Try.func3 rfl rfl (fun h h_ => ⟨(), trivial, (by rw [hF]), trivial⟩)
   ·
    have hc4b := hc4
    replace hc4 := not_f hc4
    replace hc4b := hc4
    refine JJ.skip ?_
    refine JJ.seq ?_
    refine JJ.region rfl fun rg => ?_
    refine JJ.loadL (v := .agg #[.slice (A36) ((((F_flat p).1).procs).length) (cp37), .slice (A39) ((((F_flat p).1).main).length) (cp40), .slice (A42) ((((F_flat p).1).recover).length) (cp43), .slice (A45) ((((F_flat p).1).oracles).length) (cp46)]) ty26 0 rg rfl rfl rfl rfl rfl ?_
    refine JJ.callp bo6 rg rfl rfl rfl rfl (flat _ _ ((F_flat p).1) hx34 (hgl.mono (hle16.trans hle33)) hz2 hz3) fun p54 I55 hle56 hp53 => ?_
    have hcs_ := hp53
    have hx57 := hp53
    (try dsimp only at hx57)
    refine JJ.move rg rfl rfl rfl ?_
    refine JJ.extract rg rfl rfl rfl rfl ?_
    refine JJ.extract rg rfl rfl rfl rfl ?_
    refine JJ.alloc (cs := [.slice (none) (0) (0), .slice (none) (0) (0), .slice (none) (0) (0), .slice (none) (0) (0)]) zo26 rfl rg rfl rfl fun b58 => ?_
    obtain ⟨A59, cp60, A62, cp63, A65, cp66, A68, cp69, rfl, hx61, hx64, hx67, hx70⟩ := RP.open hx57
    refine JJ.store (cs' := [.slice (A59) ((((F_flat ((F_flat p).1)).1).procs).length) (cp60), .slice (A62) ((((F_flat ((F_flat p).1)).1).main).length) (cp63), .slice (A65) ((((F_flat ((F_flat p).1)).1).recover).length) (cp66), .slice (A68) ((((F_flat ((F_flat p).1)).1).oracles).length) (cp69)]) ty26 0 rg rfl rfl rfl rfl rfl rfl rfl rfl rfl rfl rfl ?_
    refine JJ.assign rg rfl rfl rfl ?_
    refine JJ.regionEnd ?_
    refine JJ.seq ?_
    refine JJ.region rfl fun rg => ?_
    refine JJ.loadL (v := .agg #[.slice (A36) ((((F_flat p).1).procs).length) (cp37), .slice (A39) ((((F_flat p).1).main).length) (cp40), .slice (A42) ((((F_flat p).1).recover).length) (cp43), .slice (A45) ((((F_flat p).1).oracles).length) (cp46)]) ty26 1 rg rfl rfl rfl rfl rfl ?_
    refine JJ.callp bo8 rg rfl rfl rfl rfl (all _ _ ((F_flat p).1) (hx34.mono hle56) (by first | assumption | omega)) fun p74 I75 hle76 hp73 => ?_
    obtain ⟨A71, cp72⟩ := p74
    obtain ⟨hx77, hn78⟩ := hp73
    (try dsimp only at hx77 hn78)
    refine JJ.assign rg rfl rfl rfl ?_
    refine JJ.regionEnd ?_
    refine JJ.seq ?_
    refine JJ.seq ?_
    refine JJ.region rfl fun rg => ?_
    refine JJ.assign rg rfl rfl rfl ?_
    refine JJ.regionEnd ?_
    refine JJ.cut (X := Hp) (fun z => [(1, .pointer (some ⟨b13, 0, none⟩)), (3, .pointer (some ⟨b35, 0, none⟩)), (5, .pointer (some ⟨b58, 0, none⟩)), (6, .bool ((F_flat ((F_flat p).1)).2))]) (fun z => z) (fun z => [blk b58 (.cells ([.slice (A59) ((((F_flat ((F_flat p).1)).1).procs).length) (cp60), .slice (A62) ((((F_flat ((F_flat p).1)).1).main).length) (cp63), .slice (A65) ((((F_flat ((F_flat p).1)).1).recover).length) (cp66), .slice (A68) ((((F_flat ((F_flat p).1)).1).oracles).length) (cp69)]).toArray 26), blk b35 (.cells ([.slice (A36) ((((F_flat p).1).procs).length) (cp37), .slice (A39) ((((F_flat p).1).main).length) (cp40), .slice (A42) ((((F_flat p).1).recover).length) (cp43), .slice (A45) ((((F_flat p).1).oracles).length) (cp46)]).toArray 26), blk b13 (.cells ([.slice (A1) ((p.procs).length) (cp2), .slice (A4) ((p.main).length) (cp5), .slice (A7) ((p.recover).length) (cp8), .slice (A10) ((p.oracles).length) (cp11)]).toArray 26)])
     (fun z => Hp.le (I75) z ∧ F_flatPlain_l0 (Pg.alls ((F_flat p).1)) = .inr ()) (fun hk87 => ?_) ?_
    ·
     refine JJ.block ?_
     refine JJ.induct (X := Nat × Hp) (fun z => [(1, .pointer (some ⟨b13, 0, none⟩)), (3, .pointer (some ⟨b35, 0, none⟩)), (5, .pointer (some ⟨b58, 0, none⟩)), (6, .bool ((F_flat ((F_flat p).1)).2)), (7, .slice (A71) ((Pg.alls ((F_flat p).1)).length) (cp72)), (8, .int .i64 (((z.1 : Nat) : Int)))]) (fun z => z.2) (fun z => [blk b58 (.cells ([.slice (A59) ((((F_flat ((F_flat p).1)).1).procs).length) (cp60), .slice (A62) ((((F_flat ((F_flat p).1)).1).main).length) (cp63), .slice (A65) ((((F_flat ((F_flat p).1)).1).recover).length) (cp66), .slice (A68) ((((F_flat ((F_flat p).1)).1).oracles).length) (cp69)]).toArray 26), blk b35 (.cells ([.slice (A36) ((((F_flat p).1).procs).length) (cp37), .slice (A39) ((((F_flat p).1).main).length) (cp40), .slice (A42) ((((F_flat p).1).recover).length) (cp43), .slice (A45) ((((F_flat p).1).oracles).length) (cp46)]).toArray 26), blk b13 (.cells ([.slice (A1) ((p.procs).length) (cp2), .slice (A4) ((p.main).length) (cp5), .slice (A7) ((p.recover).length) (cp8), .slice (A10) ((p.oracles).length) (cp11)]).toArray 26)])
      (fun z => z.1 ≤ (Pg.alls ((F_flat p).1)).length ∧ Hp.le (I75) z.2 ∧ F_flatPlain_l0 (Pg.alls ((F_flat p).1)) = F_flatPlain_l0 (List.drop z.1 (Pg.alls ((F_flat p).1)))) (fun z => (Pg.alls ((F_flat p).1)).length - z.1)
      (0, I75) ⟨Nat.zero_le _, .refl _, by rw [List.drop_zero]⟩
      (fun h => JJ.keep _ (by repeat (first | exact trivial | refine ⟨rfl, ?_⟩)) h) ?_
     rintro ⟨i80, I82⟩ ⟨hi85, hle83, hsp84⟩ ih86
     try dsimp only at hi85 hle83 hsp84 ih86 ⊢
     rcases Nat.lt_or_ge i80 ((Pg.alls ((F_flat p).1)).length) with hlt_i80 | hge_i80
     ·
      obtain ⟨d81, hd_d81⟩ : ∃ d81, (Pg.alls ((F_flat p).1))[i80]? = some d81 := ⟨_, List.getElem?_eq_getElem hlt_i80⟩
      have hdr_i80 : List.drop i80 (Pg.alls ((F_flat p).1)) = d81 :: List.drop (i80 + 1) (Pg.alls ((F_flat p).1)) := drop_cons hd_d81
      have hz88 := St.szl_mem (List.mem_of_getElem? hd_d81)
      have hy89 := St.sz_eq d81
      have hl90 := Ex.szl_len (d81).e
      have hl91 := St.szl_len (d81).body
      have hl92 := St.szl_len (d81).els
      refine JJ.seq ?_
      refine JJ.seq ?_
      refine JJ.region rfl fun rg => ?_
      refine JJ.move rg rfl rfl rfl ?_
      refine JJ.move rg rfl rfl rfl ?_
      refine JJ.lenSlice ss23 rg rfl rfl rfl ?_
      refine JJ.bin (v := .bool true) rg rfl rfl rfl rfl (congrArg (fun b => some (Value.bool b)) (decide_eq_true (by omega))) ?_
      refine JJ.regionEnd ?_
      refine JJ.cond (b := true) rfl ?_
      refine JJ.skip ?_
      refine JJ.seq ?_
      refine JJ.block ?_
      refine JJ.seq ?_
      refine JJ.region rfl fun rg => ?_
      refine JJ.move rg rfl rfl rfl ?_
      refine JJ.move rg rfl rfl rfl ?_
      obtain ⟨a93, cs94, hA95, hcap96, -, hre97, hrow98⟩ := RSl.get (hx77.mono hle83) hd_d81
      have hlthd_d81 := (List.getElem?_eq_some_iff.1 hd_d81).1
      obtain ⟨A99, cp100, A102, cp103, A105, cp106, rfl, hx101, hx104, hx107⟩ := RT.open hre97
      refine JJ.indexAddrA hA95 (a' := a93.add (i80 * 7)) eo23 rg rfl rfl rfl rfl (by omega) (by omega) rfl ?_
      refine JJ.fieldAddr (a' := (a93.add (i80 * 7)).add 0) fo35_0 rg rfl rfl rfl rfl ?_
      refine JJ.loadI (v := .int .i64 (d81.op)) ty3 rg rfl rfl rfl (Row.drop hrow98 0) rfl ?_
      refine JJ.bin rg rfl rfl rfl rfl rfl ?_
      refine JJ.move rg rfl rfl rfl ?_
      refine JJ.split 46 rfl (fun hg11_7 => ?_) (fun hg11_7 => ?_)
      ·
       have hg11_7b := hg11_7
       replace hg11_7 := of_decide_eq_true hg11_7
       refine JJ.gskip rg rfl rfl ?_
       refine JJ.gskip rg rfl rfl ?_
       refine JJ.gskip rg rfl rfl ?_
       refine JJ.gskip rg rfl rfl ?_
       refine JJ.gskip rg rfl rfl ?_
       refine JJ.gskip rg rfl rfl ?_
       refine JJ.pick (b := true) rg rfl rfl rfl rfl ?_
       refine JJ.regionEnd ?_
       refine JJ.cond (b := true) rfl ?_
       refine JJ.seq ?_
       refine JJ.region rfl fun rg => ?_
       refine JJ.assign rg rfl rfl rfl ?_
       refine JJ.regionEnd ?_
       have hE108 : F_flatPlain_l0 (Pg.alls ((F_flat p).1)) = .inl false := by rw [hsp84, hdr_i80]; simp only [F_flatPlain_l0, hg11_7b, xb0, xb1, xb2, xb3, xb4, xb5, xb6, xb7, xb8, xb9, xb10, xb11]
       have hF : F_flatPlain p = false := by simp only [F_flatPlain, hc1b, hc4b, hE108, xb0, xb1, xb2, xb3, xb4, xb5, xb6, xb7, xb8, xb9, xb10, xb11]
       refine JJ.ret1 rfl Try.func3 rfl rfl (fun h h_ => ⟨(), trivial, (by rw [hF]), trivial⟩)
      ·
       have hg11_7b := hg11_7
       replace hg11_7 := of_decide_eq_false hg11_7
       refine JJ.move rg rfl rfl rfl ?_
       refine JJ.move rg rfl rfl rfl ?_
       refine JJ.indexAddrA hA95 (a' := a93.add (i80 * 7)) eo23 rg rfl rfl rfl rfl (by omega) (by omega) rfl ?_
       refine JJ.fieldAddr (a' := (a93.add (i80 * 7)).add 0) fo35_0 rg rfl rfl rfl rfl ?_
       refine JJ.loadI (v := .int .i64 (d81.op)) ty3 rg rfl rfl rfl (Row.drop hrow98 0) rfl ?_
       refine JJ.bin rg rfl rfl rfl rfl rfl ?_
       refine JJ.pick (b := false) rg rfl rfl rfl rfl ?_
       refine JJ.regionEnd ?_
       refine JJ.cond2 rfl (fun hc11 => ?_) (fun hc11 => ?_)
       ·
        have hc11b := hc11
        replace hc11 := of_decide_eq_true hc11
        refine JJ.seq ?_
        refine JJ.region rfl fun rg => ?_
        refine JJ.assign rg rfl rfl rfl ?_
        refine JJ.regionEnd ?_
        have hE109 : F_flatPlain_l0 (Pg.alls ((F_flat p).1)) = .inl false := by rw [hsp84, hdr_i80]; simp only [F_flatPlain_l0, hg11_7b, hc11b, xb0, xb1, xb2, xb3, xb4, xb5, xb6, xb7, xb8, xb9, xb10, xb11]
        have hF : F_flatPlain p = false := by simp only [F_flatPlain, hc1b, hc4b, hE109, xb0, xb1, xb2, xb3, xb4, xb5, xb6, xb7, xb8, xb9, xb10, xb11]
        refine JJ.ret1 rfl Try.func3 rfl rfl (fun h h_ => ⟨(), trivial, (by rw [hF]), trivial⟩)
       ·
        have hc11b := hc11
        replace hc11 := of_decide_eq_false hc11
        refine JJ.skip ?_
        refine JJ.inBlock ?_
        refine JJ.region rfl fun rg => ?_
        refine JJ.move rg rfl rfl rfl ?_
        refine JJ.binI (z := ((i80 + 1 : Nat) : Int)) rg rfl rfl rfl rfl rfl (wrap_to (by omega) (by omega) (by omega)) ?_
        refine JJ.assign rg rfl rfl rfl ?_
        refine JJ.regionEnd ?_
        have hnx : F_flatPlain_l0 (Pg.alls ((F_flat p).1)) = F_flatPlain_l0 (List.drop (i80 + 1) (Pg.alls ((F_flat p).1))) := by rw [hsp84, hdr_i80]; simp only [F_flatPlain_l0, hg11_7b, hc11b, xb0, xb1, xb2, xb3, xb4, xb5, xb6, xb7, xb8, xb9, xb10, xb11]
        refine JJ.keep _ ?_ (ih86 (i80 + 1, I82) ⟨hlt_i80, hle83, hnx⟩ (by dsimp only; omega))
        repeat (first | exact trivial | refine ⟨rfl, ?_⟩)
     ·
      have heq_i80 : i80 = (Pg.alls ((F_flat p).1)).length := by omega
      have hdr_i80 : List.drop i80 (Pg.alls ((F_flat p).1)) = [] := by rw [heq_i80]; exact List.drop_length
      refine JJ.seq ?_
      refine JJ.seq ?_
      refine JJ.region rfl fun rg => ?_
      refine JJ.move rg rfl rfl rfl ?_
      refine JJ.move rg rfl rfl rfl ?_
      refine JJ.lenSlice ss23 rg rfl rfl rfl ?_
      refine JJ.bin (v := .bool false) rg rfl rfl rfl rfl (congrArg (fun b => some (Value.bool b)) (decide_eq_false (by omega))) ?_
      refine JJ.regionEnd ?_
      refine JJ.cond (b := false) rfl ?_
      refine JJ.exit rfl ?_
      have hE : F_flatPlain_l0 (Pg.alls ((F_flat p).1)) = .inr () := by rw [hsp84, hdr_i80]; simp only [F_flatPlain_l0, xb0, xb1, xb2, xb3, xb4, xb5, xb6, xb7, xb8, xb9, xb10, xb11]
      refine JJ.keep _ ?_ (hk87 (I82) ⟨hle83, hE⟩)
      repeat (first | exact trivial | refine ⟨rfl, ?_⟩)
    ·
     rintro I110 ⟨hle111, hE112⟩
     try dsimp only at hle111 hE112 ⊢
     refine JJ.seq ?_
     refine JJ.cut (X := Hp) (fun _ => [(2, .bool ((((F_flat ((F_flat p).1)).2) && (((F_same ((F_flat ((F_flat p).1)).1) ((F_flat p).1)) && (((decide (((((((F_flat p).1).procs).length : Nat) : Int) : Int) = 0)) && (((F_lawFault (((F_boundCheck ((F_flat p).1))).1, ((F_boundCheck ((F_flat p).1))).2) (0, 0)) && (((F_lawFault (((F_boundCheck p)).1, ((F_boundCheck p)).2) (0, 0)) && (F_same (Pg.mk ([] : List Pc) ([] : List St) ([] : List St) p.oracles) (Pg.mk ([] : List Pc) ([] : List St) ([] : List St) ((F_flat p).1).oracles)))))))))))))]) (fun x => x) (fun _ => [blk b58 (.cells ([.slice (A59) ((((F_flat ((F_flat p).1)).1).procs).length) (cp60), .slice (A62) ((((F_flat ((F_flat p).1)).1).main).length) (cp63), .slice (A65) ((((F_flat ((F_flat p).1)).1).recover).length) (cp66), .slice (A68) ((((F_flat ((F_flat p).1)).1).oracles).length) (cp69)]).toArray 26), blk b35 (.cells ([.slice (A36) ((((F_flat p).1).procs).length) (cp37), .slice (A39) ((((F_flat p).1).main).length) (cp40), .slice (A42) ((((F_flat p).1).recover).length) (cp43), .slice (A45) ((((F_flat p).1).oracles).length) (cp46)]).toArray 26), blk b13 (.cells ([.slice (A1) ((p.procs).length) (cp2), .slice (A4) ((p.main).length) (cp5), .slice (A7) ((p.recover).length) (cp8), .slice (A10) ((p.oracles).length) (cp11)]).toArray 26)]) (fun x => Hp.le (I110) x) (fun hk113 => ?_) ?_
     ·
      refine JJ.region rfl fun rg => ?_
      refine JJ.move rg rfl rfl rfl ?_
      refine JJ.move rg rfl rfl rfl ?_
      refine JJ.split 55 rfl (fun hg13_2 => ?_) (fun hg13_2 => ?_)
      ·
       have hg13_2b := hg13_2
       refine JJ.loadL (v := .agg #[.slice (A59) ((((F_flat ((F_flat p).1)).1).procs).length) (cp60), .slice (A62) ((((F_flat ((F_flat p).1)).1).main).length) (cp63), .slice (A65) ((((F_flat ((F_flat p).1)).1).recover).length) (cp66), .slice (A68) ((((F_flat ((F_flat p).1)).1).oracles).length) (cp69)]) ty26 0 rg rfl rfl rfl rfl rfl ?_
       refine JJ.loadL (v := .agg #[.slice (A36) ((((F_flat p).1).procs).length) (cp37), .slice (A39) ((((F_flat p).1).main).length) (cp40), .slice (A42) ((((F_flat p).1).recover).length) (cp43), .slice (A45) ((((F_flat p).1).oracles).length) (cp46)]) ty26 1 rg rfl rfl rfl rfl rfl ?_
       refine JJ.callp bo7 rg rfl rfl rfl rfl (same _ _ ((F_flat ((F_flat p).1)).1) (hx57.mono (hle76.trans hle111)) _ ((F_flat p).1) (hx34.mono (hle56.trans (hle76.trans hle111))) (by first | assumption | omega) (by first | assumption | omega)) fun _ I118 hle119 _ => ?_
       refine JJ.pick (b := true) rg rfl rfl rfl rfl ?_
       refine JJ.move rg rfl rfl rfl ?_
       refine JJ.split 60 rfl (fun hg13_7 => ?_) (fun hg13_7 => ?_)
       ·
        have hg13_7b := hg13_7
        refine JJ.fieldAddr (a' := ⟨b35, 0, none⟩) fo26_0 rg rfl rfl rfl rfl ?_
        refine JJ.loadL (v := .slice (A36) ((((F_flat p).1).procs).length) (cp37)) ty22 1 rg rfl rfl rfl rfl rfl ?_
        refine JJ.lenSlice ss22 rg rfl rfl rfl ?_
        refine JJ.bin rg rfl rfl rfl rfl rfl ?_
        refine JJ.pick (b := true) rg rfl rfl rfl rfl ?_
        refine JJ.move rg rfl rfl rfl ?_
        refine JJ.split 66 rfl (fun hg13_13 => ?_) (fun hg13_13 => ?_)
        ·
         have hg13_13b := hg13_13
         replace hg13_13 := of_decide_eq_true hg13_13
         refine JJ.loadL (v := .agg #[.slice (A36) ((((F_flat p).1).procs).length) (cp37), .slice (A39) ((((F_flat p).1).main).length) (cp40), .slice (A42) ((((F_flat p).1).recover).length) (cp43), .slice (A45) ((((F_flat p).1).oracles).length) (cp46)]) ty26 1 rg rfl rfl rfl rfl rfl ?_
         refine JJ.callp bo10 rg rfl rfl rfl rfl (boundCheck _ _ ((F_flat p).1) (hx34.mono (hle56.trans (hle76.trans (hle111.trans hle119)))) (hgl.mono (hle16.trans (hle33.trans (hle56.trans (hle76.trans (hle111.trans hle119)))))) (by first | assumption | omega)) fun _ I122 hle123 _ => ?_
         refine JJ.build (cells := #[.int .i64 0, .int .i64 0]) zo39 so39 rg rfl rfl rfl rfl ?_
         refine JJ.callp bo9 rg rfl rfl rfl rfl (lawFault _ ((((F_boundCheck ((F_flat p).1))).1, ((F_boundCheck ((F_flat p).1))).2)) ((0, 0)) ) fun _ I126 hle127 _ => ?_
         refine JJ.pick (b := true) rg rfl rfl rfl rfl ?_
         refine JJ.move rg rfl rfl rfl ?_
         refine JJ.split 72 rfl (fun hg13_19 => ?_) (fun hg13_19 => ?_)
         ·
          have hg13_19b := hg13_19
          refine JJ.loadL (v := .agg #[.slice (A1) ((p.procs).length) (cp2), .slice (A4) ((p.main).length) (cp5), .slice (A7) ((p.recover).length) (cp8), .slice (A10) ((p.oracles).length) (cp11)]) ty26 2 rg rfl rfl rfl rfl rfl ?_
          refine JJ.callp bo10 rg rfl rfl rfl rfl (boundCheck _ _ p (h_p.mono (hle16.trans (hle33.trans (hle56.trans (hle76.trans (hle111.trans (hle119.trans (hle123.trans hle127)))))))) (hgl.mono (hle16.trans (hle33.trans (hle56.trans (hle76.trans (hle111.trans (hle119.trans (hle123.trans hle127)))))))) (by first | assumption | omega)) fun _ I130 hle131 _ => ?_
          refine JJ.build (cells := #[.int .i64 0, .int .i64 0]) zo39 so39 rg rfl rfl rfl rfl ?_
          refine JJ.callp bo9 rg rfl rfl rfl rfl (lawFault _ ((((F_boundCheck p)).1, ((F_boundCheck p)).2)) ((0, 0)) ) fun _ I134 hle135 _ => ?_
          refine JJ.pick (b := true) rg rfl rfl rfl rfl ?_
          refine JJ.move rg rfl rfl rfl ?_
          refine JJ.split 78 rfl (fun hg13_25 => ?_) (fun hg13_25 => ?_)
          ·
           have hg13_25b := hg13_25
           refine JJ.fieldAddr (a' := ⟨b13, 3, none⟩) fo26_3 rg rfl rfl rfl rfl ?_
           refine JJ.loadL (v := .slice (A10) ((p.oracles).length) (cp11)) ty24 2 rg rfl rfl rfl rfl rfl ?_
           refine JJ.build (cells := #[.slice (none) (0) (0), .slice (none) (0) (0), .slice (none) (0) (0), .slice (A10) ((p.oracles).length) (cp11)]) zo26 so26 rg rfl rfl rfl rfl ?_
           refine JJ.fieldAddr (a' := ⟨b35, 3, none⟩) fo26_3 rg rfl rfl rfl rfl ?_
           refine JJ.loadL (v := .slice (A45) ((((F_flat p).1).oracles).length) (cp46)) ty24 1 rg rfl rfl rfl rfl rfl ?_
           refine JJ.build (cells := #[.slice (none) (0) (0), .slice (none) (0) (0), .slice (none) (0) (0), .slice (A45) ((((F_flat p).1).oracles).length) (cp46)]) zo26 so26 rg rfl rfl rfl rfl ?_
           refine JJ.callp bo7 rg rfl rfl rfl rfl (same _ _ (Pg.mk ([] : List Pc) ([] : List St) ([] : List St) p.oracles) (RP.mk RQs.nil RTs.nil RTs.nil (hx12.mono (hle16.trans (hle33.trans (hle56.trans (hle76.trans (hle111.trans (hle119.trans (hle123.trans (hle127.trans (hle131.trans hle135))))))))))) _ (Pg.mk ([] : List Pc) ([] : List St) ([] : List St) ((F_flat p).1).oracles) (RP.mk RQs.nil RTs.nil RTs.nil (hx47.mono (hle56.trans (hle76.trans (hle111.trans (hle119.trans (hle123.trans (hle127.trans (hle131.trans hle135))))))))) (by simp only [Pg.sz, Pc.szl, St.szl, Oc.szl]; omega) (by simp only [Pg.sz, Pc.szl, St.szl, Oc.szl]; omega)) fun _ I138 hle139 _ => ?_
           refine JJ.pick (b := true) rg rfl rfl rfl rfl ?_
           refine JJ.assign rg rfl rfl rfl ?_
           refine JJ.regionEnd ?_
           refine JJ.keep _ ?_ (hk113 _ (hle119.trans (hle123.trans (hle127.trans (hle131.trans (hle135.trans hle139))))))
           exact ⟨congrArg (fun b => some (Value.bool b)) (by simp only [hg13_2b, hg13_7b, hg13_13b, hg13_19b, hg13_25b, xb0, xb1, xb2, xb3, xb4, xb5, xb6, xb7, xb8, xb9, xb10, xb11]), trivial⟩
          ·
           have hg13_25b := hg13_25
           refine JJ.gskip rg rfl rfl ?_
           refine JJ.gskip rg rfl rfl ?_
           refine JJ.gskip rg rfl rfl ?_
           refine JJ.gskip rg rfl rfl ?_
           refine JJ.gskip rg rfl rfl ?_
           refine JJ.gskip rg rfl rfl ?_
           refine JJ.gskip rg rfl rfl ?_
           refine JJ.pick (b := false) rg rfl rfl rfl rfl ?_
           refine JJ.assign rg rfl rfl rfl ?_
           refine JJ.regionEnd ?_
           refine JJ.keep _ ?_ (hk113 _ (hle119.trans (hle123.trans (hle127.trans (hle131.trans hle135)))))
           exact ⟨congrArg (fun b => some (Value.bool b)) (by simp only [hg13_2b, hg13_7b, hg13_13b, hg13_19b, hg13_25b, xb0, xb1, xb2, xb3, xb4, xb5, xb6, xb7, xb8, xb9, xb10, xb11]), trivial⟩
         ·
          have hg13_19b := hg13_19
          refine JJ.gskip rg rfl rfl ?_
          refine JJ.gskip rg rfl rfl ?_
          refine JJ.gskip rg rfl rfl ?_
          refine JJ.gskip rg rfl rfl ?_
          refine JJ.pick (b := false) rg rfl rfl rfl rfl ?_
          refine JJ.move rg rfl rfl rfl ?_
          refine JJ.gskip rg rfl rfl ?_
          refine JJ.gskip rg rfl rfl ?_
          refine JJ.gskip rg rfl rfl ?_
          refine JJ.gskip rg rfl rfl ?_
          refine JJ.gskip rg rfl rfl ?_
          refine JJ.gskip rg rfl rfl ?_
          refine JJ.gskip rg rfl rfl ?_
          refine JJ.pick (b := false) rg rfl rfl rfl rfl ?_
          refine JJ.assign rg rfl rfl rfl ?_
          refine JJ.regionEnd ?_
          refine JJ.keep _ ?_ (hk113 _ (hle119.trans (hle123.trans hle127)))
          exact ⟨congrArg (fun b => some (Value.bool b)) (by simp only [hg13_2b, hg13_7b, hg13_13b, hg13_19b, xb0, xb1, xb2, xb3, xb4, xb5, xb6, xb7, xb8, xb9, xb10, xb11]), trivial⟩
        ·
         have hg13_13b := hg13_13
         replace hg13_13 := of_decide_eq_false hg13_13
         refine JJ.gskip rg rfl rfl ?_
         refine JJ.gskip rg rfl rfl ?_
         refine JJ.gskip rg rfl rfl ?_
         refine JJ.gskip rg rfl rfl ?_
         refine JJ.pick (b := false) rg rfl rfl rfl rfl ?_
         refine JJ.move rg rfl rfl rfl ?_
         refine JJ.gskip rg rfl rfl ?_
         refine JJ.gskip rg rfl rfl ?_
         refine JJ.gskip rg rfl rfl ?_
         refine JJ.gskip rg rfl rfl ?_
         refine JJ.pick (b := false) rg rfl rfl rfl rfl ?_
         refine JJ.move rg rfl rfl rfl ?_
         refine JJ.gskip rg rfl rfl ?_
         refine JJ.gskip rg rfl rfl ?_
         refine JJ.gskip rg rfl rfl ?_
         refine JJ.gskip rg rfl rfl ?_
         refine JJ.gskip rg rfl rfl ?_
         refine JJ.gskip rg rfl rfl ?_
         refine JJ.gskip rg rfl rfl ?_
         refine JJ.pick (b := false) rg rfl rfl rfl rfl ?_
         refine JJ.assign rg rfl rfl rfl ?_
         refine JJ.regionEnd ?_
         refine JJ.keep _ ?_ (hk113 _ hle119)
         exact ⟨congrArg (fun b => some (Value.bool b)) (by simp only [hg13_2b, hg13_7b, hg13_13b, xb0, xb1, xb2, xb3, xb4, xb5, xb6, xb7, xb8, xb9, xb10, xb11]), trivial⟩
       ·
        have hg13_7b := hg13_7
        refine JJ.gskip rg rfl rfl ?_
        refine JJ.gskip rg rfl rfl ?_
        refine JJ.gskip rg rfl rfl ?_
        refine JJ.gskip rg rfl rfl ?_
        refine JJ.pick (b := false) rg rfl rfl rfl rfl ?_
        refine JJ.move rg rfl rfl rfl ?_
        refine JJ.gskip rg rfl rfl ?_
        refine JJ.gskip rg rfl rfl ?_
        refine JJ.gskip rg rfl rfl ?_
        refine JJ.gskip rg rfl rfl ?_
        refine JJ.pick (b := false) rg rfl rfl rfl rfl ?_
        refine JJ.move rg rfl rfl rfl ?_
        refine JJ.gskip rg rfl rfl ?_
        refine JJ.gskip rg rfl rfl ?_
        refine JJ.gskip rg rfl rfl ?_
        refine JJ.gskip rg rfl rfl ?_
        refine JJ.pick (b := false) rg rfl rfl rfl rfl ?_
        refine JJ.move rg rfl rfl rfl ?_
        refine JJ.gskip rg rfl rfl ?_
        refine JJ.gskip rg rfl rfl ?_
        refine JJ.gskip rg rfl rfl ?_
        refine JJ.gskip rg rfl rfl ?_
        refine JJ.gskip rg rfl rfl ?_
        refine JJ.gskip rg rfl rfl ?_
        refine JJ.gskip rg rfl rfl ?_
        refine JJ.pick (b := false) rg rfl rfl rfl rfl ?_
        refine JJ.assign rg rfl rfl rfl ?_
        refine JJ.regionEnd ?_
        refine JJ.keep _ ?_ (hk113 _ hle119)
        exact ⟨congrArg (fun b => some (Value.bool b)) (by simp only [hg13_2b, hg13_7b, xb0, xb1, xb2, xb3, xb4, xb5, xb6, xb7, xb8, xb9, xb10, xb11]), trivial⟩
      ·
       have hg13_2b := hg13_2
       refine JJ.gskip rg rfl rfl ?_
       refine JJ.gskip rg rfl rfl ?_
       refine JJ.gskip rg rfl rfl ?_
       refine JJ.pick (b := false) rg rfl rfl rfl rfl ?_
       refine JJ.move rg rfl rfl rfl ?_
       refine JJ.gskip rg rfl rfl ?_
       refine JJ.gskip rg rfl rfl ?_
       refine JJ.gskip rg rfl rfl ?_
       refine JJ.gskip rg rfl rfl ?_
       refine JJ.pick (b := false) rg rfl rfl rfl rfl ?_
       refine JJ.move rg rfl rfl rfl ?_
       refine JJ.gskip rg rfl rfl ?_
       refine JJ.gskip rg rfl rfl ?_
       refine JJ.gskip rg rfl rfl ?_
       refine JJ.gskip rg rfl rfl ?_
       refine JJ.pick (b := false) rg rfl rfl rfl rfl ?_
       refine JJ.move rg rfl rfl rfl ?_
       refine JJ.gskip rg rfl rfl ?_
       refine JJ.gskip rg rfl rfl ?_
       refine JJ.gskip rg rfl rfl ?_
       refine JJ.gskip rg rfl rfl ?_
       refine JJ.pick (b := false) rg rfl rfl rfl rfl ?_
       refine JJ.move rg rfl rfl rfl ?_
       refine JJ.gskip rg rfl rfl ?_
       refine JJ.gskip rg rfl rfl ?_
       refine JJ.gskip rg rfl rfl ?_
       refine JJ.gskip rg rfl rfl ?_
       refine JJ.gskip rg rfl rfl ?_
       refine JJ.gskip rg rfl rfl ?_
       refine JJ.gskip rg rfl rfl ?_
       refine JJ.pick (b := false) rg rfl rfl rfl rfl ?_
       refine JJ.assign rg rfl rfl rfl ?_
       refine JJ.regionEnd ?_
       refine JJ.keep _ ?_ (hk113 _ (.refl _))
       exact ⟨congrArg (fun b => some (Value.bool b)) (by simp only [hg13_2b, xb0, xb1, xb2, xb3, xb4, xb5, xb6, xb7, xb8, xb9, xb10, xb11]), trivial⟩
     ·
      intro I114 hle115
      have hF : F_flatPlain p = (((F_flat ((F_flat p).1)).2) && (((F_same ((F_flat ((F_flat p).1)).1) ((F_flat p).1)) && (((decide (((((((F_flat p).1).procs).length : Nat) : Int) : Int) = 0)) && (((F_lawFault (((F_boundCheck ((F_flat p).1))).1, ((F_boundCheck ((F_flat p).1))).2) (0, 0)) && (((F_lawFault (((F_boundCheck p)).1, ((F_boundCheck p)).2) (0, 0)) && (F_same (Pg.mk ([] : List Pc) ([] : List St) ([] : List St) p.oracles) (Pg.mk ([] : List Pc) ([] : List St) ([] : List St) ((F_flat p).1).oracles))))))))))) := by simp only [F_flatPlain, hc1b, hc4b, hE112, xb0, xb1, xb2, xb3, xb4, xb5, xb6, xb7, xb8, xb9, xb10, xb11]
      refine JJ.ret1 rfl Try.func3 rfl rfl (fun h h_ => ⟨(), trivial, (by rw [hF]), trivial⟩)
end Wq
end Go.Proofs.Ytlcdafeoionnhaa
