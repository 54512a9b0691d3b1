/- Walks of functions, printed by a program of this session (wip/tool/eng.py). -/
import Derived.Test.YtlcdafeoionnhaaProg
import Derived.Test.YtlcdafeoionnhaaAuto
import Derived.Test.YtlcdafeoionnhaaWb
import Derived.Test.YtlcdafeoionnhaaWc
import Derived.Test.YtlcdafeoionnhaaWg
import Derived.Test.YtlcdafeoionnhaaWh
import Derived.Test.YtlcdafeoionnhaaWi
import Derived.Test.YtlcdafeoionnhaaWj
import Derived.Test.YtlcdafeoionnhaaWk
import Derived.Test.YtlcdafeoionnhaaWl
import Derived.Test.YtlcdafeoionnhaaVb
namespace Go.Proofs.Ytlcdafeoionnhaa
open Go
set_option linter.unusedVariables false
set_option linter.unusedSimpArgs false
namespace Wm
theorem bo39 : bodyOk Try.prog 39 = true := by kernel_rfl
theorem bo40 : bodyOk Try.prog 40 = true := by kernel_rfl
theorem bo41 : bodyOk Try.prog 41 = true := by kernel_rfl
theorem eo22 : elemO Try.prog 22 = some (44, 2) := by kernel_rfl
theorem eo23 : elemO Try.prog 23 = some (35, 7) := by kernel_rfl
theorem eo24 : elemO Try.prog 24 = some (55, 5) := by kernel_rfl
theorem eo33 : elemO Try.prog 33 = some (53, 4) := by kernel_rfl
theorem fo26_0 : fieldO Try.prog 26 0 = some 0 := by kernel_rfl
theorem fo26_1 : fieldO Try.prog 26 1 = some 1 := by kernel_rfl
theorem fo26_2 : fieldO Try.prog 26 2 = some 2 := by kernel_rfl
theorem fo26_3 : fieldO Try.prog 26 3 = some 3 := by kernel_rfl
theorem fo44_0 : fieldO Try.prog 44 0 = some 0 := by kernel_rfl
theorem fo44_1 : fieldO Try.prog 44 1 = some 1 := by kernel_rfl
theorem fo55_0 : fieldO Try.prog 55 0 = some 0 := by kernel_rfl
theorem fo55_1 : fieldO Try.prog 55 1 = some 1 := by kernel_rfl
theorem fo89_1 : fieldO Try.prog 89 1 = some 1 := by kernel_rfl
theorem fo89_2 : fieldO Try.prog 89 2 = some 2 := by kernel_rfl
theorem fo89_3 : fieldO Try.prog 89 3 = some 3 := by kernel_rfl
theorem mx : Try.prog.follows .mixedOrders = true := by kernel_rfl
theorem sm85 : smapT Try.prog 85 = some 3 := by kernel_rfl
theorem so35 : structO Try.prog 35 = some [(0, 1), (1, 1), (2, 1), (3, 1), (4, 1), (5, 1), (6, 1)] := by kernel_rfl
theorem so39 : structO Try.prog 39 = some [(0, 1), (1, 1)] := by kernel_rfl
theorem so89 : structO Try.prog 89 = some [(0, 1), (1, 1), (2, 1), (3, 2)] := by kernel_rfl
theorem ss22 : isSliceT Try.prog 22 = true := by kernel_rfl
theorem ss24 : isSliceT Try.prog 24 = true := by kernel_rfl
theorem ty22 : tyI Try.prog 22 = some (false, 1) := by kernel_rfl
theorem ty23 : tyI Try.prog 23 = some (false, 1) := by kernel_rfl
theorem ty24 : tyI Try.prog 24 = some (false, 1) := by kernel_rfl
theorem ty26 : tyI Try.prog 26 = some (true, 4) := by kernel_rfl
theorem ty3 : tyI Try.prog 3 = some (false, 1) := by kernel_rfl
theorem ty39 : tyI Try.prog 39 = some (true, 2) := by kernel_rfl
theorem ty44 : tyI Try.prog 44 = some (true, 2) := by kernel_rfl
theorem ty53 : tyI Try.prog 53 = some (true, 4) := by kernel_rfl
theorem ty55 : tyI Try.prog 55 = some (true, 5) := by kernel_rfl
theorem ty85 : tyI Try.prog 85 = some (false, 1) := by kernel_rfl
theorem ty9 : tyI Try.prog 9 = some (false, 1) := by kernel_rfl
theorem zo3 : zeroOf Try.prog 3 = some (.int .i64 0) := by kernel_rfl
theorem zo35 : zeroOf Try.prog 35 = some (.agg #[.int .i64 0, .string ⟨#[]⟩, .int .i64 0, .slice none 0 0, .slice none 0 0, .slice none 0 0, .bool false]) := by kernel_rfl
theorem zo39 : zeroOf Try.prog 39 = some (.agg #[.int .i64 0, .int .i64 0]) := by kernel_rfl
theorem zo44 : zeroOf Try.prog 44 = some (.agg #[.string ⟨#[]⟩, .slice none 0 0]) := by kernel_rfl
theorem zo53 : zeroOf Try.prog 53 = some (.agg #[.int .i64 0, .int .i64 0, .string ⟨#[]⟩, .slice none 0 0]) := by kernel_rfl
theorem zo55 : zeroOf Try.prog 55 = some (.agg #[.string ⟨#[]⟩, .int .i64 0, .int .i64 0, .string ⟨#[]⟩, .slice none 0 0]) := by kernel_rfl
theorem zo89 : zeroOf Try.prog 89 = some (.agg #[.slice none 0 0, .map none, .int .i64 0, .int .i64 0, .int .i64 0]) := by kernel_rfl
open Wb Wc Wi Wj Wk Wl Vb
theorem right (I : Hp) (cs_p : List Value) (p : Pg) (h_p : RP I cs_p p) (hgl : GL 0 I) (hz : p.sz ≤ 4294967296) : Fn Try.prog 39 #[.agg (cs_p).toArray] I [] (Ret (X := Unit) (fun x_ I' => True) (fun x_ => .bool (Pg.right p)) fun _ => []) := let ⟨k, r⟩ := h_p.k; Wh.Right k I cs_p p r hgl hz
def F_count (l : List St) : Int := ((St.alls l).length : Int)
theorem count (I : Hp) (A_l : Option Addr) (cp_l : Nat) (l : List St) (h_l : RTs I A_l (l).length cp_l l) (n_l : (l).length ≤ 4294967296) (hz : St.szl l ≤ 4294967296) : Fn Try.prog 22 #[.slice (A_l) ((l).length) (cp_l)] I [] (Ret (X := Unit) (fun x_ I' => True) (fun x_ => .int .i64 (F_count l)) fun _ => []) := let ⟨k, r⟩ := h_l.k; Wg.Count I k A_l _ cp_l l r hz
theorem all (I : Hp) (cs_p : List Value) (p : Pg) (h_p : RP I cs_p p) (hz : p.sz ≤ 4294967296) : Fn Try.prog 8 #[.agg (cs_p).toArray] I [] (Ret (X := (Option Addr × Nat)) (fun x_ I' => RTs I' x_.1 (Pg.alls p).length x_.2 (Pg.alls p) ∧ (Pg.alls p).length ≤ 4294967296) (fun x_ => .slice x_.1 (Pg.alls p).length x_.2) fun _ => []) := by
  obtain ⟨k, r⟩ := h_p.k
  have hl := Wg.parts_len p
  exact (Wg.All k I cs_p p r hz).mono fun v I' h' _ ⟨x, h1, h2, h3⟩ => ⟨x, ⟨h1.x, by show p.alls.length ≤ _; omega⟩, h2, h3⟩
theorem ckR.new {b pb : Nat} {L : List HP} {h : Hp} (s : Sat (blk b (.cells [Value.slice none 0 0, .map (some pb), .int .i64 0, .int .i64 0, .int .i64 0].toArray 89) :: mapR pb (IMap.toS []) :: L) h) : Sat (ckR b ⟨[], [], 0, (0, 0)⟩ :: L) h := by
  obtain ⟨h1, h2, a, b', c, d, e⟩ := s
  refine Wl.ckR.close (A := none) (cp := 0) (n := 0) rfl ⟨h1, h2, a, b', c, d, fun _ => none, h2, fun _ _ x => (by cases x), .refl _, fun _ => .inl rfl, ⟨[], ?_⟩, e⟩
  exact Sat.pure ⟨rfl, rfl⟩ ⟨fun _ => none, fun _ => none, .refl _, .refl _, fun _ => .inl rfl, ⟨by simp, .inl ⟨rfl, rfl, rfl⟩⟩, trivial⟩
theorem right_parts {p : Pg} (h : p.right = true) {l : List St} (hl : l ∈ p.parts) : St.okl l 1 = true := by
  simp only [Pg.right, Bool.and_eq_true, List.all_eq_true] at h
  exact h.2 l hl
theorem right_oracle {p : Pg} (h : p.right = true) {o : Oc} (ho : o ∈ p.oracles) : St.okl [St.mk 18 ⟨#[]⟩ 0 [o.e] [] [] false] 1 = true := by
  simp only [Pg.right, Bool.and_eq_true, List.all_eq_true] at h
  have := (h.1.2 o ho)
  simp [St.okl, St.ok, shapeB, exprsOk, exprsN, namedB, bodyB, elseB, Ex.okl, this.2]
def F_tyCheck_l0  : List Pc → Ck → Ck
  | [], rb20_21 => rb20_21
  | d23 :: LREST, rb20_21 => F_tyCheck_l0 LREST ((bif decide ((0 : Int) < IMap.get (rb20_21.procs) d23.name) then Ck.mk ((Ck.block (F_ckFail rb20_21 9 rb20_21.at_) d23.body).scope) (IMap.set ((Ck.block (F_ckFail rb20_21 9 rb20_21.at_) d23.body).procs) d23.name (IntKind.i64.wrap ((IMap.get ((Ck.block (F_ckFail rb20_21 9 rb20_21.at_) d23.body).procs) d23.name) + 1))) ((Ck.block (F_ckFail rb20_21 9 rb20_21.at_) d23.body).at_) (Ck.block (F_ckFail rb20_21 9 rb20_21.at_) d23.body).fault else Ck.mk ((Ck.block rb20_21 d23.body).scope) (IMap.set ((Ck.block rb20_21 d23.body).procs) d23.name (IntKind.i64.wrap ((IMap.get ((Ck.block rb20_21 d23.body).procs) d23.name) + 1))) ((Ck.block rb20_21 d23.body).at_) (Ck.block rb20_21 d23.body).fault))
def F_tyCheck_l2  : List Oc → IMap → Ck → IMap × Ck
  | [], rb93_94, rb20_94 => (rb93_94, rb20_94)
  | d96 :: LREST, rb93_94, rb20_94 => F_tyCheck_l2 LREST (IMap.set (rb93_94) d96.name (IntKind.i64.wrap ((IMap.get (rb93_94) d96.name) + 1))) (Ck.block (bif decide ((1 : Int) < IMap.get (IMap.set (rb93_94) d96.name (IntKind.i64.wrap ((IMap.get (rb93_94) d96.name) + 1))) d96.name) then F_ckFail rb20_94 9 rb20_94.at_ else rb20_94) ([St.mk 18 (⟨#[]⟩) 0 ([d96.e]) ([] : List St) ([] : List St) false]))
def F_tyCheck (p : Pg) : (Int × Int) :=
  bif !(Pg.right p) then ((8, 0)) else ((fun rb20_21 => (match F_tyCheck_l2 p.oracles (([] : IMap)) (Ck.block (Ck.block rb20_21 p.main) p.recover) with | (rb93_94, rb20_94) => (rb20_94.fault.1, rb20_94.fault.2))) (F_tyCheck_l0 p.procs ((Ck.mk [] [] 0 (0, 0)))))
set_option maxHeartbeats 4000000 in
theorem tyCheck (I : Hp) (cs_p : List Value) (p : Pg) (h_p : RP I cs_p p) (hgl : GL 0 I) (hz : p.sz ≤ 4294967280) : Fn Try.prog 20 #[.agg (cs_p).toArray] I [] (Ret (X := Unit) (fun x_ I' => True) (fun x_ => .agg [.int .i64 (((F_tyCheck p)).1), .int .i64 (((F_tyCheck p)).2)].toArray) fun _ => []) := by
 have hy_p : p.sz = Pc.szl p.procs + St.szl p.main + St.szl p.recover + Oc.szl p.oracles := rfl
 have hl1_p := Pc.szl_len p.procs
 have hl2_p := Oc.szl_len p.oracles
 have hl3_p := St.szl_len p.main
 have hl4_p := St.szl_len p.recover
 obtain ⟨A1, cp2, A4, cp5, A7, cp8, A10, cp11, rfl, hx3, hx6, hx9, hx12⟩ := RP.open h_p
 refine Fn.of (args := [_]) Try.func20 rfl rfl ?_
 refine JJ.seq ?_
 refine JJ.region rfl fun rg => ?_
 refine JJ.box (cs := [.slice (A1) ((p.procs).length) (cp2), .slice (A4) ((p.main).length) (cp5), .slice (A7) ((p.recover).length) (cp8), .slice (A10) ((p.oracles).length) (cp11)]) rg rfl rfl rfl rfl fun b13 => ?_
 refine JJ.alloc (cs := [.int .i64 0, .int .i64 0]) zo39 rfl rg rfl rfl fun b14 => ?_
 refine JJ.regionEnd ?_
 refine JJ.seq ?_
 refine JJ.seq ?_
 refine JJ.region rfl fun rg => ?_
 refine JJ.loadL (v := .agg #[.slice (A1) ((p.procs).length) (cp2), .slice (A4) ((p.main).length) (cp5), .slice (A7) ((p.recover).length) (cp8), .slice (A10) ((p.oracles).length) (cp11)]) ty26 1 rg rfl rfl rfl rfl rfl ?_
 refine JJ.callp bo39 rg rfl rfl rfl rfl (right _ _ p h_p hgl (by first | assumption | omega)) fun _ I17 hle18 _ => ?_
 refine JJ.not rg rfl rfl rfl ?_
 refine JJ.regionEnd ?_
 refine JJ.cond2 rfl (fun hc1 => ?_) (fun hc1 => ?_)
 ·
  have hc1b := hc1
  replace hc1 := not_t hc1
  replace hc1b := hc1
  refine JJ.seq ?_
  refine JJ.region rfl fun rg => ?_
  refine JJ.build (cells := #[.int .i64 8, .int .i64 0]) zo39 so39 rg rfl rfl rfl rfl ?_
  refine JJ.store (cs' := [.int .i64 8, .int .i64 0]) ty39 0 rg rfl rfl rfl rfl rfl rfl rfl rfl rfl rfl rfl ?_
  refine JJ.regionEnd ?_
  have hF : F_tyCheck p = (8, 0) := by simp only [F_tyCheck, hc1b, xb0, xb1, xb2, xb3, xb4, xb5, xb6, xb7, xb8, xb9, xb10, xb11]
  refine JJ.retc (v := .agg #[.int .i64 8, .int .i64 0]) ty39 0 rfl Try.func20 rfl rfl rfl rfl (fun h h_ => ⟨(), trivial, (by rw [hF]), trivial⟩)
 ·
  have hc1b := hc1
  replace hc1 := not_f hc1
  replace hc1b := hc1
  have hrt : Pg.right p = true := by simpa using hc1b
  refine JJ.skip ?_
  refine JJ.seq ?_
  refine JJ.region rfl fun rg => ?_
  refine JJ.makeMapI rg rfl rfl fun b19 => ?_
  refine JJ.build (cells := #[.slice (none) (0) (0), .map (some b19), .int .i64 0, .int .i64 0, .int .i64 0]) zo89 so89 rg rfl rfl rfl rfl ?_
  refine JJ.box (cs := [.slice (none) (0) (0), .map (some b19), .int .i64 0, .int .i64 0, .int .i64 0]) rg rfl rfl rfl rfl fun b20 => ?_
  refine JJ.assign rg rfl rfl rfl ?_
  refine JJ.regionEnd ?_
  refine JJ.res (fun h q => ckR.new q) ?_
  refine JJ.seq ?_
  refine JJ.seq ?_
  refine JJ.region rfl fun rg => ?_
  refine JJ.fieldAddr (a' := ⟨b13, 0, none⟩) fo26_0 rg rfl rfl rfl rfl ?_
  refine JJ.loadL (v := .slice (A1) ((p.procs).length) (cp2)) ty22 2 rg rfl rfl rfl rfl rfl ?_
  refine JJ.lenSlice ss22 rg rfl rfl rfl ?_
  refine JJ.move rg rfl rfl rfl ?_
  refine JJ.regionEnd ?_
  refine JJ.cut (X := Hp × Ck) (fun z => [(1, .pointer (some ⟨b13, 0, none⟩)), (2, .pointer (some ⟨b14, 0, none⟩)), (3, .pointer (some ⟨b20, 0, none⟩))]) (fun z => z.1) (fun z => [ckR b20 z.2, blk b14 (.cells ([.int .i64 0, .int .i64 0]).toArray 39), blk b13 (.cells ([.slice (A1) ((p.procs).length) (cp2), .slice (A4) ((p.main).length) (cp5), .slice (A7) ((p.recover).length) (cp8), .slice (A10) ((p.oracles).length) (cp11)]).toArray 26)])
   (fun z => Hp.le (I17) z.1 ∧ F_tyCheck_l0 p.procs ((Ck.mk [] [] 0 (0, 0))) = z.2 ∧ (z.2).scope.length = 0) (fun hk29 => ?_) ?_
  ·
   refine JJ.block ?_
   refine JJ.induct (X := Nat × Hp × Ck) (fun z => [(1, .pointer (some ⟨b13, 0, none⟩)), (2, .pointer (some ⟨b14, 0, none⟩)), (3, .pointer (some ⟨b20, 0, none⟩)), (17, .slice (A1) ((p.procs).length) (cp2)), (18, .int .i64 ((((p.procs).length : Nat) : Int))), (19, .int .i64 (((z.1 : Nat) : Int)))]) (fun z => z.2.1) (fun z => [ckR b20 z.2.2, blk b14 (.cells ([.int .i64 0, .int .i64 0]).toArray 39), blk b13 (.cells ([.slice (A1) ((p.procs).length) (cp2), .slice (A4) ((p.main).length) (cp5), .slice (A7) ((p.recover).length) (cp8), .slice (A10) ((p.oracles).length) (cp11)]).toArray 26)])
    (fun z => z.1 ≤ (p.procs).length ∧ Hp.le (I17) z.2.1 ∧ F_tyCheck_l0 p.procs ((Ck.mk [] [] 0 (0, 0))) = F_tyCheck_l0 (List.drop z.1 p.procs) z.2.2 ∧ (z.2.2).scope.length = 0) (fun z => (p.procs).length - z.1)
    (0, I17, (Ck.mk [] [] 0 (0, 0))) ⟨Nat.zero_le _, .refl _, by rw [List.drop_zero], rfl⟩
    (fun h => JJ.keep _ (by repeat (first | exact trivial | refine ⟨rfl, ?_⟩)) h) ?_
   rintro ⟨i22, I24, rb20_21⟩ ⟨hi27, hle25, hsp26, hln⟩ ih28
   try dsimp only at hi27 hle25 hsp26 hln ih28 ⊢
   rcases Nat.lt_or_ge i22 ((p.procs).length) with hlt_i22 | hge_i22
   ·
    obtain ⟨d23, hd_d23⟩ : ∃ d23, (p.procs)[i22]? = some d23 := ⟨_, List.getElem?_eq_getElem hlt_i22⟩
    have hdr_i22 : List.drop i22 p.procs = d23 :: List.drop (i22 + 1) p.procs := drop_cons hd_d23
    have hz30 := Pc.szl_mem (List.mem_of_getElem? hd_d23)
    have hy31 : (d23).sz = St.szl (d23).body + 1 := rfl
    have hl32 := St.szl_len (d23).body
    refine JJ.seq ?_
    refine JJ.region rfl fun rg => ?_
    refine JJ.bin (v := .bool true) rg rfl rfl rfl rfl (congrArg (fun b => some (Value.bool b)) (decide_eq_true (by omega))) ?_
    refine JJ.regionEnd ?_
    refine JJ.seq ?_
    refine JJ.cond (b := true) rfl ?_
    refine JJ.skip ?_
    refine JJ.seq ?_
    refine JJ.cut (X := Hp) (fun _ => [(1, .pointer (some ⟨b13, 0, none⟩)), (2, .pointer (some ⟨b14, 0, none⟩)), (3, .pointer (some ⟨b20, 0, none⟩)), (17, .slice (A1) ((p.procs).length) (cp2)), (18, .int .i64 ((((p.procs).length : Nat) : Int))), (19, .int .i64 (((i22 : Nat) : Int)))]) (fun x => x) (fun _ => [ckR b20 (bif decide ((0 : Int) < IMap.get (rb20_21.procs) d23.name) then Ck.mk ((Ck.block (F_ckFail rb20_21 9 rb20_21.at_) d23.body).scope) (IMap.set ((Ck.block (F_ckFail rb20_21 9 rb20_21.at_) d23.body).procs) d23.name (IntKind.i64.wrap ((IMap.get ((Ck.block (F_ckFail rb20_21 9 rb20_21.at_) d23.body).procs) d23.name) + 1))) ((Ck.block (F_ckFail rb20_21 9 rb20_21.at_) d23.body).at_) (Ck.block (F_ckFail rb20_21 9 rb20_21.at_) d23.body).fault else Ck.mk ((Ck.block rb20_21 d23.body).scope) (IMap.set ((Ck.block rb20_21 d23.body).procs) d23.name (IntKind.i64.wrap ((IMap.get ((Ck.block rb20_21 d23.body).procs) d23.name) + 1))) ((Ck.block rb20_21 d23.body).at_) (Ck.block rb20_21 d23.body).fault), blk b14 (.cells ([.int .i64 0, .int .i64 0]).toArray 39), blk b13 (.cells ([.slice (A1) ((p.procs).length) (cp2), .slice (A4) ((p.main).length) (cp5), .slice (A7) ((p.recover).length) (cp8), .slice (A10) ((p.oracles).length) (cp11)]).toArray 26)]) (fun x => Hp.le (I24) x) (fun hk33 => ?_) ?_
    ·
     refine JJ.block ?_
     refine JJ.seq ?_
     refine JJ.region rfl fun rg => ?_
     obtain ⟨a36, cs37, hA38, hcap39, -, hre40, hrow41⟩ := RSl.get (hx3.mono (hle18.trans hle25)) hd_d23
     have hlthd_d23 := (List.getElem?_eq_some_iff.1 hd_d23).1
     obtain ⟨A42, cp43, rfl, hx44⟩ := RQ.open hre40
     refine JJ.indexAddrA hA38 (a' := a36.add (i22 * 2)) eo22 rg rfl rfl rfl rfl (by omega) (by omega) rfl ?_
     refine JJ.loadI (v := .agg #[.string (d23.name), .slice (A42) ((d23.body).length) (cp43)]) ty44 rg rfl rfl rfl hrow41 rfl ?_
     refine JJ.alloc (cs := [.string (⟨#[]⟩), .slice (none) (0) (0)]) zo44 rfl rg rfl rfl fun b45 => ?_
     refine JJ.store (cs' := [.string (d23.name), .slice (A42) ((d23.body).length) (cp43)]) ty44 0 rg rfl rfl rfl rfl rfl rfl rfl rfl rfl rfl rfl ?_
     refine JJ.regionEnd ?_
     refine JJ.seq ?_
     refine JJ.seq ?_
     refine JJ.pull 1 rfl rfl ?_
     refine JJ.exOpen ?_
     rintro ⟨A49, cp50, pb51⟩
     dsimp only [List.cons_append, List.nil_append]
     refine JJ.draw (m := 8) [(1, .pointer (some ⟨b13, 0, none⟩)), (2, .pointer (some ⟨b14, 0, none⟩)), (3, .pointer (some ⟨b20, 0, none⟩)), (5, .pointer (some ⟨b45, 0, none⟩)), (17, .slice (A1) ((p.procs).length) (cp2)), (18, .int .i64 ((((p.procs).length : Nat) : Int))), (19, .int .i64 (((i22 : Nat) : Int)))]
      (fun i => match i with | 0 => fun _ v => v = .pointer (some ⟨b20, 0, none⟩) | 1 => fun _ v => v = .pointer (some ⟨b20, 0, none⟩) | 2 => fun _ v => v = .pointer (some ⟨b20, 1, none⟩) | 3 => fun _ v => v = .map (some pb51) | 4 => fun _ v => v = .pointer (some ⟨b45, 0, none⟩) | 5 => fun _ v => v = .string (d23.name) | 6 => fun _ v => v = .int .i64 (IMap.get (rb20_21.procs) d23.name) | 7 => fun _ v => v = .bool (decide ((0 : Int) < IMap.get (rb20_21.procs) d23.name)) | _ => fun _ _ => False) mx rfl rfl ?_ (by repeat (first | exact trivial | refine ⟨rfl, ?_⟩)) (fun rg => ?_) (fun rg => ?_)
     ·
      rintro (_ | _ | _ | _ | _ | _ | _ | _ | i) I1_ I2_ v l h
      · exact h
      · exact h
      · exact h
      · exact h
      · exact h
      · exact h
      · exact h
      · exact h
      · exact h
     ·
      refine ⟨?_, ?_, ?_, ?_, ?_, ?_, ?_, ?_, trivial⟩
      ·
       intro is E2 I2_ hle_ hb hd kk_
       obtain ⟨hb1, hb2, hb3, hb5, hb17, hb18, hb19, -⟩ := hb
       refine JJ.move rg rfl rfl hb3 (kk_ _ _ (.refl _) rfl)
      ·
       intro is E2 I2_ hle_ hb hd kk_
       obtain ⟨hb1, hb2, hb3, hb5, hb17, hb18, hb19, -⟩ := hb
       obtain ⟨d0, v0, e0, g0, s0⟩ := hd 0 (by decide)
       cases e0
       subst s0
       refine JJ.nilCheck rg rfl rfl g0 (kk_ _ _ (.refl _) rfl)
      ·
       intro is E2 I2_ hle_ hb hd kk_
       obtain ⟨hb1, hb2, hb3, hb5, hb17, hb18, hb19, -⟩ := hb
       obtain ⟨d1, v1, e1, g1, s1⟩ := hd 1 (by decide)
       cases e1
       subst s1
       refine JJ.fieldAddr (a' := ⟨b20, 1, none⟩) fo89_1 rg rfl rfl g1 rfl (kk_ _ _ (.refl _) rfl)
      ·
       intro is E2 I2_ hle_ hb hd kk_
       obtain ⟨hb1, hb2, hb3, hb5, hb17, hb18, hb19, -⟩ := hb
       obtain ⟨d2, v2, e2, g2, s2⟩ := hd 2 (by decide)
       cases e2
       subst s2
       refine JJ.loadL (v := .map (some pb51)) ty85 0 rg rfl rfl g2 rfl rfl (kk_ _ _ (.refl _) rfl)
      ·
       intro is E2 I2_ hle_ hb hd kk_
       obtain ⟨hb1, hb2, hb3, hb5, hb17, hb18, hb19, -⟩ := hb
       refine JJ.fieldAddr (a' := ⟨b45, 0, none⟩) fo44_0 rg rfl rfl hb5 rfl (kk_ _ _ (.refl _) rfl)
      ·
       intro is E2 I2_ hle_ hb hd kk_
       obtain ⟨hb1, hb2, hb3, hb5, hb17, hb18, hb19, -⟩ := hb
       obtain ⟨d4, v4, e4, g4, s4⟩ := hd 4 (by decide)
       cases e4
       subst s4
       refine JJ.loadL (v := .string (d23.name)) ty9 3 rg rfl rfl g4 rfl rfl (kk_ _ _ (.refl _) rfl)
      ·
       intro is E2 I2_ hle_ hb hd kk_
       obtain ⟨hb1, hb2, hb3, hb5, hb17, hb18, hb19, -⟩ := hb
       obtain ⟨d3, v3, e3, g3, s3⟩ := hd 3 (by decide)
       cases e3
       subst s3
       obtain ⟨d5, v5, e5, g5, s5⟩ := hd 5 (by decide)
       cases e5
       subst s5
       refine JJ.lookupI sm85 zo3 2 rg rfl rfl g3 g5 rfl (kk_ _ _ (.refl _) rfl)
      ·
       intro is E2 I2_ hle_ hb hd kk_
       obtain ⟨hb1, hb2, hb3, hb5, hb17, hb18, hb19, -⟩ := hb
       obtain ⟨d6, v6, e6, g6, s6⟩ := hd 6 (by decide)
       cases e6
       subst s6
       refine JJ.bin rg rfl rfl g6 rfl rfl (kk_ _ _ (.refl _) rfl)
     intro vs I53 hle52 hs_
     obtain ⟨hv0, hv1, hv2, hv3, hv4, hv5, hv6, hv7, -⟩ := hs_
     refine JJ.keep [(1, .pointer (some ⟨b13, 0, none⟩)), (2, .pointer (some ⟨b14, 0, none⟩)), (3, .pointer (some ⟨b20, 0, none⟩)), (17, .slice (A1) ((p.procs).length) (cp2)), (18, .int .i64 ((((p.procs).length : Nat) : Int))), (19, .int .i64 (((i22 : Nat) : Int))), (5, .pointer (some ⟨b45, 0, none⟩)), (30, .bool (decide ((0 : Int) < IMap.get (rb20_21.procs) d23.name)))] ⟨rfl, rfl, rfl, rfl, rfl, rfl, rfl, congrArg some hv7, trivial⟩ ?_
     refine JJ.regionEnd ?_
     refine JJ.cond2 rfl (fun hc7 => ?_) (fun hc7 => ?_)
     ·
      have hc7b := hc7
      replace hc7 := of_decide_eq_true hc7
      refine JJ.region rfl fun rg => ?_
      refine JJ.move rg rfl rfl rfl ?_
      refine JJ.move rg rfl rfl rfl ?_
      refine JJ.nilCheck rg rfl rfl rfl ?_
      refine JJ.fieldAddr (a' := ⟨b20, 2, none⟩) fo89_2 rg rfl rfl rfl rfl ?_
      refine JJ.loadL (v := .int .i64 (rb20_21.at_)) ty3 0 rg rfl rfl rfl rfl rfl ?_
      refine JJ.pull 2 rfl rfl ?_
      refine JJ.pull 2 rfl rfl ?_
      refine JJ.pull 2 rfl rfl ?_
      refine JJ.res (L' := [ckR b20 rb20_21, blk b45 (.cells ([.string (d23.name), .slice (A42) ((d23.body).length) (cp43)]).toArray 44), blk b14 (.cells ([.int .i64 0, .int .i64 0]).toArray 39), blk b13 (.cells ([.slice (A1) ((p.procs).length) (cp2), .slice (A4) ((p.main).length) (cp5), .slice (A7) ((p.recover).length) (cp8), .slice (A10) ((p.oracles).length) (cp11)]).toArray 26)]) (fun h q => ckR.close (by first | rfl | simp only [List.length_append, List.length_dropLast, List.length_cons, List.length_nil]) q) ?_
      (try dsimp only [List.set])
      refine JJ.call (Lr := [_, _, _]) bo40 rg rfl rfl rfl rfl (ckFail _ b20 (rb20_21) 9 rb20_21.at_ ) (fun h q => q.pull 0 rfl) fun p55 I56 hle57 hp54 => ?_
      (try dsimp only [List.set, List.cons_append, List.nil_append])
      refine JJ.regionEnd ?_
      refine JJ.seq ?_
      refine JJ.region rfl fun rg => ?_
      refine JJ.move rg rfl rfl rfl ?_
      refine JJ.fieldAddr (a' := ⟨b45, 1, none⟩) fo44_1 rg rfl rfl rfl rfl ?_
      refine JJ.loadL (v := .slice (A42) ((d23.body).length) (cp43)) ty23 1 rg rfl rfl rfl rfl rfl ?_
      (try dsimp only [List.set])
      refine JJ.call (Lr := [_, _, _]) bo41 rg rfl rfl rfl rfl (Wl.ckBlock _ b20 (F_ckFail rb20_21 9 rb20_21.at_) _ _ d23.body (hx44.mono (hle52.trans hle57)) (by first | assumption | omega | (simp; done)) 1 (right_parts hrt (by simp [Pg.parts]; exact .inl ⟨_, List.mem_of_getElem? hd_d23, rfl⟩)) (by (try simp only [St.szl, St.sz, Ex.szl]); omega) (by (try simp only [Bool.cond_decide]); (repeat' split) <;> (try simp only [St.szl, St.sz, Ex.szl, Ck.exprs_len, Ck.let_len, Ck.fail_len, Ck.block_len, F_ckExprs, F_ckLet, F_ckFail, Ck.push_len]) <;> omega)) (fun h q => q.pull 0 rfl) fun p59 I60 hle61 hp58 => ?_
      (try dsimp only [List.set, List.cons_append, List.nil_append])
      refine JJ.regionEnd ?_
      refine JJ.exOpen ?_
      rintro ⟨A65, cp66, pb67⟩
      dsimp only [List.cons_append, List.nil_append]
      refine JJ.draw (m := 8) [(1, .pointer (some ⟨b13, 0, none⟩)), (2, .pointer (some ⟨b14, 0, none⟩)), (3, .pointer (some ⟨b20, 0, none⟩)), (5, .pointer (some ⟨b45, 0, none⟩)), (17, .slice (A1) ((p.procs).length) (cp2)), (18, .int .i64 ((((p.procs).length : Nat) : Int))), (19, .int .i64 (((i22 : Nat) : Int)))]
       (fun i => match i with | 0 => fun _ v => v = .pointer (some ⟨b20, 0, none⟩) | 1 => fun _ v => v = .pointer (some ⟨b20, 0, none⟩) | 2 => fun _ v => v = .pointer (some ⟨b20, 1, none⟩) | 3 => fun _ v => v = .map (some pb67) | 4 => fun _ v => v = .pointer (some ⟨b45, 0, none⟩) | 5 => fun _ v => v = .string (d23.name) | 6 => fun _ v => v = .int .i64 (IMap.get ((Ck.block (F_ckFail rb20_21 9 rb20_21.at_) d23.body).procs) d23.name) | 7 => fun _ v => v = .int .i64 (IntKind.i64.wrap ((IMap.get ((Ck.block (F_ckFail rb20_21 9 rb20_21.at_) d23.body).procs) d23.name) + 1)) | _ => fun _ _ => False) mx rfl rfl ?_ (by repeat (first | exact trivial | refine ⟨rfl, ?_⟩)) (fun rg => ?_) (fun rg => ?_)
      ·
       rintro (_ | _ | _ | _ | _ | _ | _ | _ | i) I1_ I2_ v l h
       · exact h
       · exact h
       · exact h
       · exact h
       · exact h
       · exact h
       · exact h
       · exact h
       · exact h
      ·
       refine ⟨?_, ?_, ?_, ?_, ?_, ?_, ?_, ?_, trivial⟩
       ·
        intro is E2 I2_ hle_ hb hd kk_
        obtain ⟨hb1, hb2, hb3, hb5, hb17, hb18, hb19, -⟩ := hb
        refine JJ.move rg rfl rfl hb3 (kk_ _ _ (.refl _) rfl)
       ·
        intro is E2 I2_ hle_ hb hd kk_
        obtain ⟨hb1, hb2, hb3, hb5, hb17, hb18, hb19, -⟩ := hb
        obtain ⟨d0, v0, e0, g0, s0⟩ := hd 0 (by decide)
        cases e0
        subst s0
        refine JJ.nilCheck rg rfl rfl g0 (kk_ _ _ (.refl _) rfl)
       ·
        intro is E2 I2_ hle_ hb hd kk_
        obtain ⟨hb1, hb2, hb3, hb5, hb17, hb18, hb19, -⟩ := hb
        obtain ⟨d1, v1, e1, g1, s1⟩ := hd 1 (by decide)
        cases e1
        subst s1
        refine JJ.fieldAddr (a' := ⟨b20, 1, none⟩) fo89_1 rg rfl rfl g1 rfl (kk_ _ _ (.refl _) rfl)
       ·
        intro is E2 I2_ hle_ hb hd kk_
        obtain ⟨hb1, hb2, hb3, hb5, hb17, hb18, hb19, -⟩ := hb
        obtain ⟨d2, v2, e2, g2, s2⟩ := hd 2 (by decide)
        cases e2
        subst s2
        refine JJ.loadL (v := .map (some pb67)) ty85 0 rg rfl rfl g2 rfl rfl (kk_ _ _ (.refl _) rfl)
       ·
        intro is E2 I2_ hle_ hb hd kk_
        obtain ⟨hb1, hb2, hb3, hb5, hb17, hb18, hb19, -⟩ := hb
        refine JJ.fieldAddr (a' := ⟨b45, 0, none⟩) fo44_0 rg rfl rfl hb5 rfl (kk_ _ _ (.refl _) rfl)
       ·
        intro is E2 I2_ hle_ hb hd kk_
        obtain ⟨hb1, hb2, hb3, hb5, hb17, hb18, hb19, -⟩ := hb
        obtain ⟨d4, v4, e4, g4, s4⟩ := hd 4 (by decide)
        cases e4
        subst s4
        refine JJ.loadL (v := .string (d23.name)) ty9 3 rg rfl rfl g4 rfl rfl (kk_ _ _ (.refl _) rfl)
       ·
        intro is E2 I2_ hle_ hb hd kk_
        obtain ⟨hb1, hb2, hb3, hb5, hb17, hb18, hb19, -⟩ := hb
        obtain ⟨d3, v3, e3, g3, s3⟩ := hd 3 (by decide)
        cases e3
        subst s3
        obtain ⟨d5, v5, e5, g5, s5⟩ := hd 5 (by decide)
        cases e5
        subst s5
        refine JJ.lookupI sm85 zo3 2 rg rfl rfl g3 g5 rfl (kk_ _ _ (.refl _) rfl)
       ·
        intro is E2 I2_ hle_ hb hd kk_
        obtain ⟨hb1, hb2, hb3, hb5, hb17, hb18, hb19, -⟩ := hb
        obtain ⟨d6, v6, e6, g6, s6⟩ := hd 6 (by decide)
        cases e6
        subst s6
        refine JJ.binI (z := IntKind.i64.wrap ((IMap.get ((Ck.block (F_ckFail rb20_21 9 rb20_21.at_) d23.body).procs) d23.name) + 1)) rg rfl rfl g6 rfl rfl rfl (kk_ _ _ (.refl _) rfl)
      intro vs I69 hle68 hs_
      obtain ⟨hv0, hv1, hv2, hv3, hv4, hv5, hv6, hv7, -⟩ := hs_
      refine JJ.keep [(1, .pointer (some ⟨b13, 0, none⟩)), (2, .pointer (some ⟨b14, 0, none⟩)), (3, .pointer (some ⟨b20, 0, none⟩)), (17, .slice (A1) ((p.procs).length) (cp2)), (18, .int .i64 ((((p.procs).length : Nat) : Int))), (19, .int .i64 (((i22 : Nat) : Int))), (44, .map (some pb67)), (46, .string (d23.name)), (48, .int .i64 (IntKind.i64.wrap ((IMap.get ((Ck.block (F_ckFail rb20_21 9 rb20_21.at_) d23.body).procs) d23.name) + 1)))] ⟨rfl, rfl, rfl, rfl, rfl, rfl, congrArg some hv3, congrArg some hv5, congrArg some hv7, trivial⟩ ?_
      refine JJ.mapUpdateI sm85 2 rg rfl rfl rfl rfl rfl rfl ?_
      dsimp only [List.set]
      refine JJ.regionEnd ?_
      refine JJ.inBlock ?_
      refine JJ.pull 2 rfl rfl ?_
      refine JJ.pull 2 rfl rfl ?_
      refine JJ.pull 2 rfl rfl ?_
      refine JJ.res (L' := [ckR b20 (Ck.mk ((Ck.block (F_ckFail rb20_21 9 rb20_21.at_) d23.body).scope) (IMap.set ((Ck.block (F_ckFail rb20_21 9 rb20_21.at_) d23.body).procs) d23.name (IntKind.i64.wrap ((IMap.get ((Ck.block (F_ckFail rb20_21 9 rb20_21.at_) d23.body).procs) d23.name) + 1))) ((Ck.block (F_ckFail rb20_21 9 rb20_21.at_) d23.body).at_) (Ck.block (F_ckFail rb20_21 9 rb20_21.at_) d23.body).fault), blk b45 (.cells ([.string (d23.name), .slice (A42) ((d23.body).length) (cp43)]).toArray 44), blk b14 (.cells ([.int .i64 0, .int .i64 0]).toArray 39), blk b13 (.cells ([.slice (A1) ((p.procs).length) (cp2), .slice (A4) ((p.main).length) (cp5), .slice (A7) ((p.recover).length) (cp8), .slice (A10) ((p.oracles).length) (cp11)]).toArray 26)]) (fun h q => ckR.close (by first | rfl | simp only [List.length_append, List.length_dropLast, List.length_cons, List.length_nil]) q) ?_
      refine JJ.pull 1 rfl rfl ?_
      refine JJ.drop ?_
      refine JJ.res (L' := [ckR b20 (bif decide ((0 : Int) < IMap.get (rb20_21.procs) d23.name) then Ck.mk ((Ck.block (F_ckFail rb20_21 9 rb20_21.at_) d23.body).scope) (IMap.set ((Ck.block (F_ckFail rb20_21 9 rb20_21.at_) d23.body).procs) d23.name (IntKind.i64.wrap ((IMap.get ((Ck.block (F_ckFail rb20_21 9 rb20_21.at_) d23.body).procs) d23.name) + 1))) ((Ck.block (F_ckFail rb20_21 9 rb20_21.at_) d23.body).at_) (Ck.block (F_ckFail rb20_21 9 rb20_21.at_) d23.body).fault else Ck.mk ((Ck.block rb20_21 d23.body).scope) (IMap.set ((Ck.block rb20_21 d23.body).procs) d23.name (IntKind.i64.wrap ((IMap.get ((Ck.block rb20_21 d23.body).procs) d23.name) + 1))) ((Ck.block rb20_21 d23.body).at_) (Ck.block rb20_21 d23.body).fault), blk b14 (.cells ([.int .i64 0, .int .i64 0]).toArray 39), blk b13 (.cells ([.slice (A1) ((p.procs).length) (cp2), .slice (A4) ((p.main).length) (cp5), .slice (A7) ((p.recover).length) (cp8), .slice (A10) ((p.oracles).length) (cp11)]).toArray 26)]) (fun h q => by simp only [hc7b, xb0, xb1, xb2, xb3, xb4, xb5, xb6, xb7, xb8, xb9, xb10, xb11]; exact q) ?_
      refine JJ.keep _ ?_ (hk33 _ (hle52.trans (hle57.trans (hle61.trans hle68))))
      exact ⟨rfl, rfl, rfl, rfl, rfl, rfl, trivial⟩
     ·
      have hc7b := hc7
      replace hc7 := of_decide_eq_false hc7
      refine JJ.skip ?_
      refine JJ.seq ?_
      refine JJ.region rfl fun rg => ?_
      refine JJ.move rg rfl rfl rfl ?_
      refine JJ.fieldAddr (a' := ⟨b45, 1, none⟩) fo44_1 rg rfl rfl rfl rfl ?_
      refine JJ.loadL (v := .slice (A42) ((d23.body).length) (cp43)) ty23 3 rg rfl rfl rfl rfl rfl ?_
      refine JJ.pull 2 rfl rfl ?_
      refine JJ.pull 2 rfl rfl ?_
      refine JJ.pull 2 rfl rfl ?_
      refine JJ.res (L' := [ckR b20 rb20_21, blk b45 (.cells ([.string (d23.name), .slice (A42) ((d23.body).length) (cp43)]).toArray 44), blk b14 (.cells ([.int .i64 0, .int .i64 0]).toArray 39), blk b13 (.cells ([.slice (A1) ((p.procs).length) (cp2), .slice (A4) ((p.main).length) (cp5), .slice (A7) ((p.recover).length) (cp8), .slice (A10) ((p.oracles).length) (cp11)]).toArray 26)]) (fun h q => ckR.close (by first | rfl | simp only [List.length_append, List.length_dropLast, List.length_cons, List.length_nil]) q) ?_
      (try dsimp only [List.set])
      refine JJ.call (Lr := [_, _, _]) bo41 rg rfl rfl rfl rfl (Wl.ckBlock _ b20 (rb20_21) _ _ d23.body (hx44.mono hle52) (by first | assumption | omega | (simp; done)) 1 (right_parts hrt (by simp [Pg.parts]; exact .inl ⟨_, List.mem_of_getElem? hd_d23, rfl⟩)) (by (try simp only [St.szl, St.sz, Ex.szl]); omega) (by (try simp only [Bool.cond_decide]); (repeat' split) <;> (try simp only [St.szl, St.sz, Ex.szl, Ck.exprs_len, Ck.let_len, Ck.fail_len, Ck.block_len, F_ckExprs, F_ckLet, F_ckFail, Ck.push_len]) <;> omega)) (fun h q => q.pull 0 rfl) fun p71 I72 hle73 hp70 => ?_
      (try dsimp only [List.set, List.cons_append, List.nil_append])
      refine JJ.regionEnd ?_
      refine JJ.exOpen ?_
      rintro ⟨A77, cp78, pb79⟩
      dsimp only [List.cons_append, List.nil_append]
      refine JJ.draw (m := 8) [(1, .pointer (some ⟨b13, 0, none⟩)), (2, .pointer (some ⟨b14, 0, none⟩)), (3, .pointer (some ⟨b20, 0, none⟩)), (5, .pointer (some ⟨b45, 0, none⟩)), (17, .slice (A1) ((p.procs).length) (cp2)), (18, .int .i64 ((((p.procs).length : Nat) : Int))), (19, .int .i64 (((i22 : Nat) : Int)))]
       (fun i => match i with | 0 => fun _ v => v = .pointer (some ⟨b20, 0, none⟩) | 1 => fun _ v => v = .pointer (some ⟨b20, 0, none⟩) | 2 => fun _ v => v = .pointer (some ⟨b20, 1, none⟩) | 3 => fun _ v => v = .map (some pb79) | 4 => fun _ v => v = .pointer (some ⟨b45, 0, none⟩) | 5 => fun _ v => v = .string (d23.name) | 6 => fun _ v => v = .int .i64 (IMap.get ((Ck.block rb20_21 d23.body).procs) d23.name) | 7 => fun _ v => v = .int .i64 (IntKind.i64.wrap ((IMap.get ((Ck.block rb20_21 d23.body).procs) d23.name) + 1)) | _ => fun _ _ => False) mx rfl rfl ?_ (by repeat (first | exact trivial | refine ⟨rfl, ?_⟩)) (fun rg => ?_) (fun rg => ?_)
      ·
       rintro (_ | _ | _ | _ | _ | _ | _ | _ | i) I1_ I2_ v l h
       · exact h
       · exact h
       · exact h
       · exact h
       · exact h
       · exact h
       · exact h
       · exact h
       · exact h
      ·
       refine ⟨?_, ?_, ?_, ?_, ?_, ?_, ?_, ?_, trivial⟩
       ·
        intro is E2 I2_ hle_ hb hd kk_
        obtain ⟨hb1, hb2, hb3, hb5, hb17, hb18, hb19, -⟩ := hb
        refine JJ.move rg rfl rfl hb3 (kk_ _ _ (.refl _) rfl)
       ·
        intro is E2 I2_ hle_ hb hd kk_
        obtain ⟨hb1, hb2, hb3, hb5, hb17, hb18, hb19, -⟩ := hb
        obtain ⟨d0, v0, e0, g0, s0⟩ := hd 0 (by decide)
        cases e0
        subst s0
        refine JJ.nilCheck rg rfl rfl g0 (kk_ _ _ (.refl _) rfl)
       ·
        intro is E2 I2_ hle_ hb hd kk_
        obtain ⟨hb1, hb2, hb3, hb5, hb17, hb18, hb19, -⟩ := hb
        obtain ⟨d1, v1, e1, g1, s1⟩ := hd 1 (by decide)
        cases e1
        subst s1
        refine JJ.fieldAddr (a' := ⟨b20, 1, none⟩) fo89_1 rg rfl rfl g1 rfl (kk_ _ _ (.refl _) rfl)
       ·
        intro is E2 I2_ hle_ hb hd kk_
        obtain ⟨hb1, hb2, hb3, hb5, hb17, hb18, hb19, -⟩ := hb
        obtain ⟨d2, v2, e2, g2, s2⟩ := hd 2 (by decide)
        cases e2
        subst s2
        refine JJ.loadL (v := .map (some pb79)) ty85 0 rg rfl rfl g2 rfl rfl (kk_ _ _ (.refl _) rfl)
       ·
        intro is E2 I2_ hle_ hb hd kk_
        obtain ⟨hb1, hb2, hb3, hb5, hb17, hb18, hb19, -⟩ := hb
        refine JJ.fieldAddr (a' := ⟨b45, 0, none⟩) fo44_0 rg rfl rfl hb5 rfl (kk_ _ _ (.refl _) rfl)
       ·
        intro is E2 I2_ hle_ hb hd kk_
        obtain ⟨hb1, hb2, hb3, hb5, hb17, hb18, hb19, -⟩ := hb
        obtain ⟨d4, v4, e4, g4, s4⟩ := hd 4 (by decide)
        cases e4
        subst s4
        refine JJ.loadL (v := .string (d23.name)) ty9 3 rg rfl rfl g4 rfl rfl (kk_ _ _ (.refl _) rfl)
       ·
        intro is E2 I2_ hle_ hb hd kk_
        obtain ⟨hb1, hb2, hb3, hb5, hb17, hb18, hb19, -⟩ := hb
        obtain ⟨d3, v3, e3, g3, s3⟩ := hd 3 (by decide)
        cases e3
        subst s3
        obtain ⟨d5, v5, e5, g5, s5⟩ := hd 5 (by decide)
        cases e5
        subst s5
        refine JJ.lookupI sm85 zo3 2 rg rfl rfl g3 g5 rfl (kk_ _ _ (.refl _) rfl)
       ·
        intro is E2 I2_ hle_ hb hd kk_
        obtain ⟨hb1, hb2, hb3, hb5, hb17, hb18, hb19, -⟩ := hb
        obtain ⟨d6, v6, e6, g6, s6⟩ := hd 6 (by decide)
        cases e6
        subst s6
        refine JJ.binI (z := IntKind.i64.wrap ((IMap.get ((Ck.block rb20_21 d23.body).procs) d23.name) + 1)) rg rfl rfl g6 rfl rfl rfl (kk_ _ _ (.refl _) rfl)
      intro vs I81 hle80 hs_
      obtain ⟨hv0, hv1, hv2, hv3, hv4, hv5, hv6, hv7, -⟩ := hs_
      refine JJ.keep [(1, .pointer (some ⟨b13, 0, none⟩)), (2, .pointer (some ⟨b14, 0, none⟩)), (3, .pointer (some ⟨b20, 0, none⟩)), (17, .slice (A1) ((p.procs).length) (cp2)), (18, .int .i64 ((((p.procs).length : Nat) : Int))), (19, .int .i64 (((i22 : Nat) : Int))), (44, .map (some pb79)), (46, .string (d23.name)), (48, .int .i64 (IntKind.i64.wrap ((IMap.get ((Ck.block rb20_21 d23.body).procs) d23.name) + 1)))] ⟨rfl, rfl, rfl, rfl, rfl, rfl, congrArg some hv3, congrArg some hv5, congrArg some hv7, trivial⟩ ?_
      refine JJ.mapUpdateI sm85 2 rg rfl rfl rfl rfl rfl rfl ?_
      dsimp only [List.set]
      refine JJ.regionEnd ?_
      refine JJ.inBlock ?_
      refine JJ.pull 2 rfl rfl ?_
      refine JJ.pull 2 rfl rfl ?_
      refine JJ.pull 2 rfl rfl ?_
      refine JJ.res (L' := [ckR b20 (Ck.mk ((Ck.block rb20_21 d23.body).scope) (IMap.set ((Ck.block rb20_21 d23.body).procs) d23.name (IntKind.i64.wrap ((IMap.get ((Ck.block rb20_21 d23.body).procs) d23.name) + 1))) ((Ck.block rb20_21 d23.body).at_) (Ck.block rb20_21 d23.body).fault), blk b45 (.cells ([.string (d23.name), .slice (A42) ((d23.body).length) (cp43)]).toArray 44), blk b14 (.cells ([.int .i64 0, .int .i64 0]).toArray 39), blk b13 (.cells ([.slice (A1) ((p.procs).length) (cp2), .slice (A4) ((p.main).length) (cp5), .slice (A7) ((p.recover).length) (cp8), .slice (A10) ((p.oracles).length) (cp11)]).toArray 26)]) (fun h q => ckR.close (by first | rfl | simp only [List.length_append, List.length_dropLast, List.length_cons, List.length_nil]) q) ?_
      refine JJ.pull 1 rfl rfl ?_
      refine JJ.drop ?_
      refine JJ.res (L' := [ckR b20 (bif decide ((0 : Int) < IMap.get (rb20_21.procs) d23.name) then Ck.mk ((Ck.block (F_ckFail rb20_21 9 rb20_21.at_) d23.body).scope) (IMap.set ((Ck.block (F_ckFail rb20_21 9 rb20_21.at_) d23.body).procs) d23.name (IntKind.i64.wrap ((IMap.get ((Ck.block (F_ckFail rb20_21 9 rb20_21.at_) d23.body).procs) d23.name) + 1))) ((Ck.block (F_ckFail rb20_21 9 rb20_21.at_) d23.body).at_) (Ck.block (F_ckFail rb20_21 9 rb20_21.at_) d23.body).fault else Ck.mk ((Ck.block rb20_21 d23.body).scope) (IMap.set ((Ck.block rb20_21 d23.body).procs) d23.name (IntKind.i64.wrap ((IMap.get ((Ck.block rb20_21 d23.body).procs) d23.name) + 1))) ((Ck.block rb20_21 d23.body).at_) (Ck.block rb20_21 d23.body).fault), blk b14 (.cells ([.int .i64 0, .int .i64 0]).toArray 39), blk b13 (.cells ([.slice (A1) ((p.procs).length) (cp2), .slice (A4) ((p.main).length) (cp5), .slice (A7) ((p.recover).length) (cp8), .slice (A10) ((p.oracles).length) (cp11)]).toArray 26)]) (fun h q => by simp only [hc7b, xb0, xb1, xb2, xb3, xb4, xb5, xb6, xb7, xb8, xb9, xb10, xb11]; exact q) ?_
      refine JJ.keep _ ?_ (hk33 _ (hle52.trans (hle73.trans hle80)))
      exact ⟨rfl, rfl, rfl, rfl, rfl, rfl, trivial⟩
    ·
     intro I34 hle35
     refine JJ.region rfl fun rg => ?_
     refine JJ.binI (z := ((i22 + 1 : Nat) : Int)) rg rfl rfl rfl rfl rfl (wrap_to (by omega) (by omega) (by omega)) ?_
     refine JJ.move rg rfl rfl rfl ?_
     refine JJ.regionEnd ?_
     have hnx : F_tyCheck_l0 p.procs ((Ck.mk [] [] 0 (0, 0))) = F_tyCheck_l0 (List.drop (i22 + 1) p.procs) ((bif decide ((0 : Int) < IMap.get (rb20_21.procs) d23.name) then Ck.mk ((Ck.block (F_ckFail rb20_21 9 rb20_21.at_) d23.body).scope) (IMap.set ((Ck.block (F_ckFail rb20_21 9 rb20_21.at_) d23.body).procs) d23.name (IntKind.i64.wrap ((IMap.get ((Ck.block (F_ckFail rb20_21 9 rb20_21.at_) d23.body).procs) d23.name) + 1))) ((Ck.block (F_ckFail rb20_21 9 rb20_21.at_) d23.body).at_) (Ck.block (F_ckFail rb20_21 9 rb20_21.at_) d23.body).fault else Ck.mk ((Ck.block rb20_21 d23.body).scope) (IMap.set ((Ck.block rb20_21 d23.body).procs) d23.name (IntKind.i64.wrap ((IMap.get ((Ck.block rb20_21 d23.body).procs) d23.name) + 1))) ((Ck.block rb20_21 d23.body).at_) (Ck.block rb20_21 d23.body).fault)) := by rw [hsp26, hdr_i22]; simp only [F_tyCheck_l0, xb0, xb1, xb2, xb3, xb4, xb5, xb6, xb7, xb8, xb9, xb10, xb11]
     refine JJ.keep _ ?_ (ih28 (i22 + 1, I34, (bif decide ((0 : Int) < IMap.get (rb20_21.procs) d23.name) then Ck.mk ((Ck.block (F_ckFail rb20_21 9 rb20_21.at_) d23.body).scope) (IMap.set ((Ck.block (F_ckFail rb20_21 9 rb20_21.at_) d23.body).procs) d23.name (IntKind.i64.wrap ((IMap.get ((Ck.block (F_ckFail rb20_21 9 rb20_21.at_) d23.body).procs) d23.name) + 1))) ((Ck.block (F_ckFail rb20_21 9 rb20_21.at_) d23.body).at_) (Ck.block (F_ckFail rb20_21 9 rb20_21.at_) d23.body).fault else Ck.mk ((Ck.block rb20_21 d23.body).scope) (IMap.set ((Ck.block rb20_21 d23.body).procs) d23.name (IntKind.i64.wrap ((IMap.get ((Ck.block rb20_21 d23.body).procs) d23.name) + 1))) ((Ck.block rb20_21 d23.body).at_) (Ck.block rb20_21 d23.body).fault)) ⟨hlt_i22, (hle25.trans hle35), hnx, (by (try simp only [Bool.cond_decide]); (repeat' split) <;> (try simp only [Ck.exprs_len, Ck.let_len, Ck.fail_len, Ck.block_len, F_ckExprs, F_ckLet, F_ckFail, Ck.push_len]) <;> first | omega | assumption)⟩ (by dsimp only; omega))
     repeat (first | exact trivial | refine ⟨rfl, ?_⟩)
   ·
    have heq_i22 : i22 = (p.procs).length := by omega
    have hdr_i22 : List.drop i22 p.procs = [] := by rw [heq_i22]; exact List.drop_length
    refine JJ.seq ?_
    refine JJ.region rfl fun rg => ?_
    refine JJ.bin (v := .bool false) rg rfl rfl rfl rfl (congrArg (fun b => some (Value.bool b)) (decide_eq_false (by omega))) ?_
    refine JJ.regionEnd ?_
    refine JJ.seq ?_
    refine JJ.cond (b := false) rfl ?_
    refine JJ.exit rfl ?_
    have hE : F_tyCheck_l0 p.procs ((Ck.mk [] [] 0 (0, 0))) = rb20_21 := by rw [hsp26, hdr_i22]; simp only [F_tyCheck_l0, xb0, xb1, xb2, xb3, xb4, xb5, xb6, xb7, xb8, xb9, xb10, xb11]
    refine JJ.keep _ ?_ (hk29 (I24, rb20_21) ⟨hle25, hE, hln⟩)
    repeat (first | exact trivial | refine ⟨rfl, ?_⟩)
  ·
   rintro ⟨I82, rb20_21⟩ ⟨hle83, hE84, hln⟩
   try dsimp only at hle83 hE84 hln ⊢
   refine JJ.seq ?_
   refine JJ.region rfl fun rg => ?_
   refine JJ.move rg rfl rfl rfl ?_
   refine JJ.fieldAddr (a' := ⟨b13, 1, none⟩) fo26_1 rg rfl rfl rfl rfl ?_
   refine JJ.loadL (v := .slice (A4) ((p.main).length) (cp5)) ty23 2 rg rfl rfl rfl rfl rfl ?_
   (try dsimp only [List.set])
   refine JJ.call (Lr := [_, _]) bo41 rg rfl rfl rfl rfl (Wl.ckBlock _ b20 (rb20_21) _ _ p.main (hx6.mono (hle18.trans hle83)) (by first | assumption | omega | (simp; done)) 1 (right_parts hrt (by simp [Pg.parts])) (by (try simp only [St.szl, St.sz, Ex.szl]); omega) (by (try simp only [Bool.cond_decide]); (repeat' split) <;> (try simp only [St.szl, St.sz, Ex.szl, Ck.exprs_len, Ck.let_len, Ck.fail_len, Ck.block_len, F_ckExprs, F_ckLet, F_ckFail, Ck.push_len]) <;> omega)) (fun h q => q.pull 0 rfl) fun p86 I87 hle88 hp85 => ?_
   (try dsimp only [List.set, List.cons_append, List.nil_append])
   refine JJ.regionEnd ?_
   refine JJ.seq ?_
   refine JJ.region rfl fun rg => ?_
   refine JJ.move rg rfl rfl rfl ?_
   refine JJ.fieldAddr (a' := ⟨b13, 2, none⟩) fo26_2 rg rfl rfl rfl rfl ?_
   refine JJ.loadL (v := .slice (A7) ((p.recover).length) (cp8)) ty23 2 rg rfl rfl rfl rfl rfl ?_
   (try dsimp only [List.set])
   refine JJ.call (Lr := [_, _]) bo41 rg rfl rfl rfl rfl (Wl.ckBlock _ b20 (Ck.block rb20_21 p.main) _ _ p.recover (hx9.mono (hle18.trans (hle83.trans hle88))) (by first | assumption | omega | (simp; done)) 1 (right_parts hrt (by simp [Pg.parts])) (by (try simp only [St.szl, St.sz, Ex.szl]); omega) (by (try simp only [Bool.cond_decide]); (repeat' split) <;> (try simp only [St.szl, St.sz, Ex.szl, Ck.exprs_len, Ck.let_len, Ck.fail_len, Ck.block_len, F_ckExprs, F_ckLet, F_ckFail, Ck.push_len]) <;> omega)) (fun h q => q.pull 0 rfl) fun p90 I91 hle92 hp89 => ?_
   (try dsimp only [List.set, List.cons_append, List.nil_append])
   refine JJ.regionEnd ?_
   refine JJ.seq ?_
   refine JJ.region rfl fun rg => ?_
   refine JJ.makeMapI rg rfl rfl fun b93 => ?_
   refine JJ.assign rg rfl rfl rfl ?_
   refine JJ.regionEnd ?_
   refine JJ.seq ?_
   refine JJ.seq ?_
   refine JJ.region rfl fun rg => ?_
   refine JJ.fieldAddr (a' := ⟨b13, 3, none⟩) fo26_3 rg rfl rfl rfl rfl ?_
   refine JJ.loadL (v := .slice (A10) ((p.oracles).length) (cp11)) ty24 3 rg rfl rfl rfl rfl rfl ?_
   refine JJ.lenSlice ss24 rg rfl rfl rfl ?_
   refine JJ.move rg rfl rfl rfl ?_
   refine JJ.regionEnd ?_
   refine JJ.cut (X := Hp × IMap × Ck) (fun z => [(2, .pointer (some ⟨b14, 0, none⟩)), (3, .pointer (some ⟨b20, 0, none⟩))]) (fun z => z.1) (fun z => [mapR b93 (IMap.toS z.2.1), ckR b20 z.2.2, blk b14 (.cells ([.int .i64 0, .int .i64 0]).toArray 39), blk b13 (.cells ([.slice (A1) ((p.procs).length) (cp2), .slice (A4) ((p.main).length) (cp5), .slice (A7) ((p.recover).length) (cp8), .slice (A10) ((p.oracles).length) (cp11)]).toArray 26)])
    (fun z => Hp.le (I91) z.1 ∧ F_tyCheck_l2 p.oracles (([] : IMap)) (Ck.block (Ck.block rb20_21 p.main) p.recover) = (z.2.1, z.2.2) ∧ (z.2.2).scope.length = 0) (fun hk102 => ?_) ?_
   ·
    refine JJ.block ?_
    refine JJ.induct (X := Nat × Hp × IMap × Ck) (fun z => [(2, .pointer (some ⟨b14, 0, none⟩)), (3, .pointer (some ⟨b20, 0, none⟩)), (6, .map (some b93)), (60, .slice (A10) ((p.oracles).length) (cp11)), (61, .int .i64 ((((p.oracles).length : Nat) : Int))), (62, .int .i64 (((z.1 : Nat) : Int)))]) (fun z => z.2.1) (fun z => [mapR b93 (IMap.toS z.2.2.1), ckR b20 z.2.2.2, blk b14 (.cells ([.int .i64 0, .int .i64 0]).toArray 39), blk b13 (.cells ([.slice (A1) ((p.procs).length) (cp2), .slice (A4) ((p.main).length) (cp5), .slice (A7) ((p.recover).length) (cp8), .slice (A10) ((p.oracles).length) (cp11)]).toArray 26)])
     (fun z => z.1 ≤ (p.oracles).length ∧ Hp.le (I91) z.2.1 ∧ F_tyCheck_l2 p.oracles (([] : IMap)) (Ck.block (Ck.block rb20_21 p.main) p.recover) = F_tyCheck_l2 (List.drop z.1 p.oracles) z.2.2.1 z.2.2.2 ∧ (z.2.2.2).scope.length = 0) (fun z => (p.oracles).length - z.1)
     (0, I91, ([] : IMap), Ck.block (Ck.block rb20_21 p.main) p.recover) ⟨Nat.zero_le _, .refl _, by rw [List.drop_zero], (by (try simp only [Bool.cond_decide]); (repeat' split) <;> (try simp only [Ck.exprs_len, Ck.let_len, Ck.fail_len, Ck.block_len, F_ckExprs, F_ckLet, F_ckFail, Ck.push_len]) <;> first | omega | assumption)⟩
     (fun h => JJ.keep _ (by repeat (first | exact trivial | refine ⟨rfl, ?_⟩)) h) ?_
    rintro ⟨i95, I97, rb93_94, rb20_94⟩ ⟨hi100, hle98, hsp99, hln⟩ ih101
    try dsimp only at hi100 hle98 hsp99 hln ih101 ⊢
    rcases Nat.lt_or_ge i95 ((p.oracles).length) with hlt_i95 | hge_i95
    ·
     obtain ⟨d96, hd_d96⟩ : ∃ d96, (p.oracles)[i95]? = some d96 := ⟨_, List.getElem?_eq_getElem hlt_i95⟩
     have hdr_i95 : List.drop i95 p.oracles = d96 :: List.drop (i95 + 1) p.oracles := drop_cons hd_d96
     have hz103 := Oc.szl_mem (List.mem_of_getElem? hd_d96)
     have hy104 : (d96).sz = (d96).e.sz + 1 := rfl
     refine JJ.seq ?_
     refine JJ.region rfl fun rg => ?_
     refine JJ.bin (v := .bool true) rg rfl rfl rfl rfl (congrArg (fun b => some (Value.bool b)) (decide_eq_true (by omega))) ?_
     refine JJ.regionEnd ?_
     refine JJ.seq ?_
     refine JJ.cond (b := true) rfl ?_
     refine JJ.skip ?_
     refine JJ.seq ?_
     refine JJ.block ?_
     refine JJ.seq ?_
     refine JJ.region rfl fun rg => ?_
     obtain ⟨a105, cs106, hA107, hcap108, -, hre109, hrow110⟩ := RSl.get (hx12.mono (hle18.trans (hle83.trans (hle88.trans (hle92.trans hle98))))) hd_d96
     have hlthd_d96 := (List.getElem?_eq_some_iff.1 hd_d96).1
     obtain ⟨A112, cp113, rfl, hx114⟩ := RO.open hre109
     refine JJ.indexAddrA hA107 (a' := a105.add (i95 * 5)) eo24 rg rfl rfl rfl rfl (by omega) (by omega) rfl ?_
     refine JJ.loadI (v := .agg #[.string (d96.name), .int .i64 (d96.e.op), .int .i64 (d96.e.n), .string (d96.e.s), .slice (A112) ((d96.e.x).length) (cp113)]) ty55 rg rfl rfl rfl hrow110 rfl ?_
     refine JJ.alloc (cs := [.string (⟨#[]⟩), .int .i64 0, .int .i64 0, .string (⟨#[]⟩), .slice (none) (0) (0)]) zo55 rfl rg rfl rfl fun b115 => ?_
     refine JJ.store (cs' := [.string (d96.name), .int .i64 (d96.e.op), .int .i64 (d96.e.n), .string (d96.e.s), .slice (A112) ((d96.e.x).length) (cp113)]) ty55 0 rg rfl rfl rfl rfl rfl rfl rfl rfl rfl rfl rfl ?_
     refine JJ.regionEnd ?_
     refine JJ.seq ?_
     refine JJ.seq ?_
     refine JJ.region rfl fun rg => ?_
     refine JJ.move rg rfl rfl rfl ?_
     refine JJ.fieldAddr (a' := ⟨b115, 0, none⟩) fo55_0 rg rfl rfl rfl rfl ?_
     refine JJ.loadL (v := .string (d96.name)) ty9 0 rg rfl rfl rfl rfl rfl ?_
     refine JJ.lookupI sm85 zo3 1 rg rfl rfl rfl rfl rfl ?_
     refine JJ.binI (z := IntKind.i64.wrap ((IMap.get (rb93_94) d96.name) + 1)) rg rfl rfl rfl rfl rfl rfl ?_
     refine JJ.mapUpdateI sm85 1 rg rfl rfl rfl rfl rfl rfl ?_
     dsimp only [List.set]
     refine JJ.regionEnd ?_
     refine JJ.seq ?_
     refine JJ.region rfl fun rg => ?_
     refine JJ.move rg rfl rfl rfl ?_
     refine JJ.fieldAddr (a' := ⟨b115, 0, none⟩) fo55_0 rg rfl rfl rfl rfl ?_
     refine JJ.loadL (v := .string (d96.name)) ty9 0 rg rfl rfl rfl rfl rfl ?_
     refine JJ.lookupI sm85 zo3 1 rg rfl rfl rfl rfl rfl ?_
     refine JJ.bin rg rfl rfl rfl rfl rfl ?_
     refine JJ.regionEnd ?_
     refine JJ.cut (X := Hp) (fun _ => [(2, .pointer (some ⟨b14, 0, none⟩)), (3, .pointer (some ⟨b20, 0, none⟩)), (6, .map (some b93)), (8, .pointer (some ⟨b115, 0, none⟩)), (60, .slice (A10) ((p.oracles).length) (cp11)), (61, .int .i64 ((((p.oracles).length : Nat) : Int))), (62, .int .i64 (((i95 : Nat) : Int)))]) (fun x => x) (fun _ => [blk b115 (.cells ([.string (d96.name), .int .i64 (d96.e.op), .int .i64 (d96.e.n), .string (d96.e.s), .slice (A112) ((d96.e.x).length) (cp113)]).toArray 55), mapR b93 (IMap.toS (IMap.set (rb93_94) d96.name (IntKind.i64.wrap ((IMap.get (rb93_94) d96.name) + 1)))), ckR b20 (bif decide ((1 : Int) < IMap.get (IMap.set (rb93_94) d96.name (IntKind.i64.wrap ((IMap.get (rb93_94) d96.name) + 1))) d96.name) then F_ckFail rb20_94 9 rb20_94.at_ else rb20_94), blk b14 (.cells ([.int .i64 0, .int .i64 0]).toArray 39), blk b13 (.cells ([.slice (A1) ((p.procs).length) (cp2), .slice (A4) ((p.main).length) (cp5), .slice (A7) ((p.recover).length) (cp8), .slice (A10) ((p.oracles).length) (cp11)]).toArray 26)]) (fun x => Hp.le (I97) x) (fun hk116 => ?_) ?_
     ·
      refine JJ.cond2 rfl (fun hc19 => ?_) (fun hc19 => ?_)
      ·
       have hc19b := hc19
       replace hc19 := of_decide_eq_true hc19
       refine JJ.region rfl fun rg => ?_
       refine JJ.move rg rfl rfl rfl ?_
       refine JJ.move rg rfl rfl rfl ?_
       refine JJ.nilCheck rg rfl rfl rfl ?_
       refine JJ.pull 2 rfl rfl ?_
       refine JJ.exOpen ?_
       rintro ⟨A119, cp120, pb121⟩
       dsimp only [List.cons_append, List.nil_append]
       refine JJ.fieldAddr (a' := ⟨b20, 2, none⟩) fo89_2 rg rfl rfl rfl rfl ?_
       refine JJ.loadL (v := .int .i64 (rb20_94.at_)) ty3 0 rg rfl rfl rfl rfl rfl ?_
       refine JJ.pull 2 rfl rfl ?_
       refine JJ.pull 2 rfl rfl ?_
       refine JJ.pull 2 rfl rfl ?_
       refine JJ.res (L' := [ckR b20 rb20_94, blk b115 (.cells ([.string (d96.name), .int .i64 (d96.e.op), .int .i64 (d96.e.n), .string (d96.e.s), .slice (A112) ((d96.e.x).length) (cp113)]).toArray 55), mapR b93 (IMap.toS (IMap.set (rb93_94) d96.name (IntKind.i64.wrap ((IMap.get (rb93_94) d96.name) + 1)))), blk b14 (.cells ([.int .i64 0, .int .i64 0]).toArray 39), blk b13 (.cells ([.slice (A1) ((p.procs).length) (cp2), .slice (A4) ((p.main).length) (cp5), .slice (A7) ((p.recover).length) (cp8), .slice (A10) ((p.oracles).length) (cp11)]).toArray 26)]) (fun h q => ckR.close (by first | rfl | simp only [List.length_append, List.length_dropLast, List.length_cons, List.length_nil]) q) ?_
       (try dsimp only [List.set])
       refine JJ.call (Lr := [_, _, _, _]) bo40 rg rfl rfl rfl rfl (ckFail _ b20 (rb20_94) 9 rb20_94.at_ ) (fun h q => q.pull 0 rfl) fun p123 I124 hle125 hp122 => ?_
       (try dsimp only [List.set, List.cons_append, List.nil_append])
       refine JJ.regionEnd ?_
       refine JJ.pull 4 rfl rfl ?_
       refine JJ.pull 4 rfl rfl ?_
       refine JJ.pull 2 rfl rfl ?_
       refine JJ.pull 4 rfl rfl ?_
       refine JJ.pull 4 rfl rfl ?_
       refine JJ.res (L' := [blk b115 (.cells ([.string (d96.name), .int .i64 (d96.e.op), .int .i64 (d96.e.n), .string (d96.e.s), .slice (A112) ((d96.e.x).length) (cp113)]).toArray 55), mapR b93 (IMap.toS (IMap.set (rb93_94) d96.name (IntKind.i64.wrap ((IMap.get (rb93_94) d96.name) + 1)))), ckR b20 (bif decide ((1 : Int) < IMap.get (IMap.set (rb93_94) d96.name (IntKind.i64.wrap ((IMap.get (rb93_94) d96.name) + 1))) d96.name) then F_ckFail rb20_94 9 rb20_94.at_ else rb20_94), blk b14 (.cells ([.int .i64 0, .int .i64 0]).toArray 39), blk b13 (.cells ([.slice (A1) ((p.procs).length) (cp2), .slice (A4) ((p.main).length) (cp5), .slice (A7) ((p.recover).length) (cp8), .slice (A10) ((p.oracles).length) (cp11)]).toArray 26)]) (fun h q => by simp only [hc19b, xb0, xb1, xb2, xb3, xb4, xb5, xb6, xb7, xb8, xb9, xb10, xb11]; exact q) ?_
       refine JJ.keep _ ?_ (hk116 _ hle125)
       exact ⟨rfl, rfl, rfl, rfl, rfl, rfl, rfl, trivial⟩
      ·
       have hc19b := hc19
       replace hc19 := of_decide_eq_false hc19
       refine JJ.skip ?_
       refine JJ.res (L' := [blk b115 (.cells ([.string (d96.name), .int .i64 (d96.e.op), .int .i64 (d96.e.n), .string (d96.e.s), .slice (A112) ((d96.e.x).length) (cp113)]).toArray 55), mapR b93 (IMap.toS (IMap.set (rb93_94) d96.name (IntKind.i64.wrap ((IMap.get (rb93_94) d96.name) + 1)))), ckR b20 (bif decide ((1 : Int) < IMap.get (IMap.set (rb93_94) d96.name (IntKind.i64.wrap ((IMap.get (rb93_94) d96.name) + 1))) d96.name) then F_ckFail rb20_94 9 rb20_94.at_ else rb20_94), blk b14 (.cells ([.int .i64 0, .int .i64 0]).toArray 39), blk b13 (.cells ([.slice (A1) ((p.procs).length) (cp2), .slice (A4) ((p.main).length) (cp5), .slice (A7) ((p.recover).length) (cp8), .slice (A10) ((p.oracles).length) (cp11)]).toArray 26)]) (fun h q => by simp only [hc19b, xb0, xb1, xb2, xb3, xb4, xb5, xb6, xb7, xb8, xb9, xb10, xb11]; exact q) ?_
       refine JJ.keep _ ?_ (hk116 _ (.refl _))
       exact ⟨rfl, rfl, rfl, rfl, rfl, rfl, rfl, trivial⟩
     ·
      intro I117 hle118
      refine JJ.region rfl fun rg => ?_
      refine JJ.move rg rfl rfl rfl ?_
      refine JJ.fieldAddr (a' := ⟨b115, 1, none⟩) fo55_1 rg rfl rfl rfl rfl ?_
      refine JJ.loadL (v := .agg #[.int .i64 (d96.e.op), .int .i64 (d96.e.n), .string (d96.e.s), .slice (A112) ((d96.e.x).length) (cp113)]) ty53 0 rg rfl rfl rfl rfl rfl ?_
      refine JJ.buildSlice (cs := [.int .i64 (d96.e.op), .int .i64 (d96.e.n), .string (d96.e.s), .slice (A112) ((d96.e.x).length) (cp113)]) eo33 zo53 rg rfl rfl rfl rfl rfl rfl rfl fun b126 => ?_
      refine JJ.build (cells := #[.int .i64 18, .string (⟨#[]⟩), .int .i64 0, .slice (some ⟨b126, 0, none⟩) (1) (1), .slice (none) (0) (0), .slice (none) (0) (0), .bool false]) zo35 so35 rg rfl rfl rfl rfl ?_
      refine JJ.buildSlice (cs := [.int .i64 18, .string (⟨#[]⟩), .int .i64 0, .slice (some ⟨b126, 0, none⟩) (1) (1), .slice (none) (0) (0), .slice (none) (0) (0), .bool false]) eo23 zo35 rg rfl rfl rfl rfl rfl rfl rfl fun b127 => ?_
      (try dsimp only [List.set])
      refine JJ.pull 1 rfl rfl ?_
      refine JJ.share fun I128 hle129 hb130 => ?_
      have hrow131 : Row I128 ⟨b126, 0, none⟩ [.int .i64 (d96.e.op), .int .i64 (d96.e.n), .string (d96.e.s), .slice (A112) ((d96.e.x).length) (cp113)] := Row.of hb130 0
      clear hb130
      have hx132 : RXs I128 (some ⟨b126, 0, none⟩) ([d96.e]).length 1 [d96.e] := RSl.of (css := [[.int .i64 (d96.e.op), .int .i64 (d96.e.n), .string (d96.e.s), .slice (A112) ((d96.e.x).length) (cp113)]]) (.inr ⟨_, rfl, by simp, by simpa using hrow131⟩) rfl (.cons ⟨rfl, (RX.cl (hx114.mono (hle118.trans hle129)))⟩ .nil)
      (try dsimp only [List.set])
      refine JJ.share fun I133 hle134 hb135 => ?_
      have hrow136 : Row I133 ⟨b127, 0, none⟩ [.int .i64 18, .string (⟨#[]⟩), .int .i64 0, .slice (some ⟨b126, 0, none⟩) (1) (1), .slice (none) (0) (0), .slice (none) (0) (0), .bool false] := Row.of hb135 0
      clear hb135
      have hx137 : RTs I133 (some ⟨b127, 0, none⟩) ([St.mk 18 (⟨#[]⟩) 0 ([d96.e]) ([] : List St) ([] : List St) false]).length 1 [St.mk 18 (⟨#[]⟩) 0 ([d96.e]) ([] : List St) ([] : List St) false] := RSl.of (css := [[.int .i64 18, .string (⟨#[]⟩), .int .i64 0, .slice (some ⟨b126, 0, none⟩) (1) (1), .slice (none) (0) (0), .slice (none) (0) (0), .bool false]]) (.inr ⟨_, rfl, by simp, by simpa using hrow136⟩) rfl (.cons ⟨rfl, (RT.mk (hx132.mono hle134) RTs.nil RTs.nil)⟩ .nil)
      (try dsimp only [List.set])
      refine JJ.call (Lr := [_, _, _, _]) bo41 rg rfl rfl rfl rfl (Wl.ckBlock _ b20 ((bif decide ((1 : Int) < IMap.get (IMap.set (rb93_94) d96.name (IntKind.i64.wrap ((IMap.get (rb93_94) d96.name) + 1))) d96.name) then F_ckFail rb20_94 9 rb20_94.at_ else rb20_94)) _ _ ([St.mk 18 (⟨#[]⟩) 0 ([d96.e]) ([] : List St) ([] : List St) false]) hx137 (by first | assumption | omega | (simp; done)) 1 (right_oracle hrt (List.mem_of_getElem? hd_d96)) (by (try simp only [St.szl, St.sz, Ex.szl]); omega) (by (try simp only [Bool.cond_decide]); (repeat' split) <;> (try simp only [St.szl, St.sz, Ex.szl, Ck.exprs_len, Ck.let_len, Ck.fail_len, Ck.block_len, F_ckExprs, F_ckLet, F_ckFail, Ck.push_len]) <;> omega)) (fun h q => q.pull 2 rfl) fun p139 I140 hle141 hp138 => ?_
      refine JJ.res (L' := [_, _, _, _, _]) (fun h q => Sat.put (L := [_, _, (fun _ => True), _, _]) 2 (by simp only [List.length_cons]; omega) q) ?_
      (try dsimp only [List.set, List.cons_append, List.nil_append])
      refine JJ.regionEnd ?_
      refine JJ.inBlock ?_
      refine JJ.region rfl fun rg => ?_
      refine JJ.binI (z := ((i95 + 1 : Nat) : Int)) rg rfl rfl rfl rfl rfl (wrap_to (by omega) (by omega) (by omega)) ?_
      refine JJ.move rg rfl rfl rfl ?_
      refine JJ.regionEnd ?_
      refine JJ.drop ?_
      have hnx : F_tyCheck_l2 p.oracles (([] : IMap)) (Ck.block (Ck.block rb20_21 p.main) p.recover) = F_tyCheck_l2 (List.drop (i95 + 1) p.oracles) (IMap.set (rb93_94) d96.name (IntKind.i64.wrap ((IMap.get (rb93_94) d96.name) + 1))) (Ck.block (bif decide ((1 : Int) < IMap.get (IMap.set (rb93_94) d96.name (IntKind.i64.wrap ((IMap.get (rb93_94) d96.name) + 1))) d96.name) then F_ckFail rb20_94 9 rb20_94.at_ else rb20_94) ([St.mk 18 (⟨#[]⟩) 0 ([d96.e]) ([] : List St) ([] : List St) false])) := by rw [hsp99, hdr_i95]; simp only [F_tyCheck_l2, xb0, xb1, xb2, xb3, xb4, xb5, xb6, xb7, xb8, xb9, xb10, xb11]
      refine JJ.keep _ ?_ (ih101 (i95 + 1, I140, IMap.set (rb93_94) d96.name (IntKind.i64.wrap ((IMap.get (rb93_94) d96.name) + 1)), Ck.block (bif decide ((1 : Int) < IMap.get (IMap.set (rb93_94) d96.name (IntKind.i64.wrap ((IMap.get (rb93_94) d96.name) + 1))) d96.name) then F_ckFail rb20_94 9 rb20_94.at_ else rb20_94) ([St.mk 18 (⟨#[]⟩) 0 ([d96.e]) ([] : List St) ([] : List St) false])) ⟨hlt_i95, (hle98.trans (hle118.trans (hle129.trans (hle134.trans hle141)))), hnx, (by (try simp only [Bool.cond_decide]); (repeat' split) <;> (try simp only [Ck.exprs_len, Ck.let_len, Ck.fail_len, Ck.block_len, F_ckExprs, F_ckLet, F_ckFail, Ck.push_len]) <;> first | omega | assumption)⟩ (by dsimp only; omega))
      repeat (first | exact trivial | refine ⟨rfl, ?_⟩)
    ·
     have heq_i95 : i95 = (p.oracles).length := by omega
     have hdr_i95 : List.drop i95 p.oracles = [] := by rw [heq_i95]; exact List.drop_length
     refine JJ.seq ?_
     refine JJ.region rfl fun rg => ?_
     refine JJ.bin (v := .bool false) rg rfl rfl rfl rfl (congrArg (fun b => some (Value.bool b)) (decide_eq_false (by omega))) ?_
     refine JJ.regionEnd ?_
     refine JJ.seq ?_
     refine JJ.cond (b := false) rfl ?_
     refine JJ.exit rfl ?_
     have hE : F_tyCheck_l2 p.oracles (([] : IMap)) (Ck.block (Ck.block rb20_21 p.main) p.recover) = (rb93_94, rb20_94) := by rw [hsp99, hdr_i95]; simp only [F_tyCheck_l2, xb0, xb1, xb2, xb3, xb4, xb5, xb6, xb7, xb8, xb9, xb10, xb11]
     refine JJ.keep _ ?_ (hk102 (I97, rb93_94, rb20_94) ⟨hle98, hE, hln⟩)
     repeat (first | exact trivial | refine ⟨rfl, ?_⟩)
   ·
    rintro ⟨I142, rb93_94, rb20_94⟩ ⟨hle143, hE144, hln⟩
    try dsimp only at hle143 hE144 hln ⊢
    refine JJ.seq ?_
    refine JJ.region rfl fun rg => ?_
    refine JJ.move rg rfl rfl rfl ?_
    refine JJ.nilCheck rg rfl rfl rfl ?_
    refine JJ.pull 1 rfl rfl ?_
    refine JJ.exOpen ?_
    rintro ⟨A145, cp146, pb147⟩
    dsimp only [List.cons_append, List.nil_append]
    refine JJ.fieldAddr (a' := ⟨b20, 3, none⟩) fo89_3 rg rfl rfl rfl rfl ?_
    refine JJ.loadL (v := .agg #[.int .i64 (rb20_94.fault.1), .int .i64 (rb20_94.fault.2)]) ty39 0 rg rfl rfl rfl rfl rfl ?_
    refine JJ.store (cs' := [.int .i64 (rb20_94.fault.1), .int .i64 (rb20_94.fault.2)]) ty39 4 rg rfl rfl rfl rfl rfl rfl rfl rfl rfl rfl rfl ?_
    refine JJ.regionEnd ?_
    have hF : F_tyCheck p = (rb20_94.fault.1, rb20_94.fault.2) := by simp only [F_tyCheck, hc1b, hE84, hE144, xb0, xb1, xb2, xb3, xb4, xb5, xb6, xb7, xb8, xb9, xb10, xb11]
    refine JJ.retc (v := .agg #[.int .i64 (rb20_94.fault.1), .int .i64 (rb20_94.fault.2)]) ty39 4 rfl Try.func20 rfl rfl rfl rfl (fun h h_ => ⟨(), trivial, (by rw [hF]), trivial⟩)
end Wm
end Go.Proofs.Ytlcdafeoionnhaa
