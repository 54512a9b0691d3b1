/- Walks of functions, printed by a program of this session (wip/tool/eng.py). -/
import Derived.Test.YtlcdafeoionnhaaProg
import Derived.Test.YtlcdafeoionnhaaAuto
import Derived.Test.YtlcdafeoionnhaaWg
import Derived.Test.YtlcdafeoionnhaaWh
import Derived.Test.YtlcdafeoionnhaaWl
import Derived.Test.YtlcdafeoionnhaaWm
import Derived.Test.YtlcdafeoionnhaaVb
namespace Go.Proofs.Ytlcdafeoionnhaa
open Go
set_option linter.unusedVariables false
set_option linter.unusedSimpArgs false
namespace Wn
theorem bo20 : bodyOk Try.prog 20 = true := by kernel_rfl
theorem bo21 : bodyOk Try.prog 21 = true := by kernel_rfl
theorem bo22 : bodyOk Try.prog 22 = true := by kernel_rfl
theorem bo42 : bodyOk Try.prog 42 = true := by kernel_rfl
theorem bo43 : bodyOk Try.prog 43 = true := by kernel_rfl
theorem bo8 : bodyOk Try.prog 8 = true := by kernel_rfl
theorem eo22 : elemO Try.prog 22 = some (44, 2) := by kernel_rfl
theorem fo26_0 : fieldO Try.prog 26 0 = some 0 := by kernel_rfl
theorem fo26_1 : fieldO Try.prog 26 1 = some 1 := by kernel_rfl
theorem fo26_2 : fieldO Try.prog 26 2 = some 2 := by kernel_rfl
theorem fo44_0 : fieldO Try.prog 44 0 = some 0 := by kernel_rfl
theorem fo44_1 : fieldO Try.prog 44 1 = some 1 := by kernel_rfl
theorem mx : Try.prog.follows .mixedOrders = true := by kernel_rfl
theorem pt39 : pairT Try.prog 39 = true := by kernel_rfl
theorem sm92 : smapT Try.prog 92 = some 3 := by kernel_rfl
theorem so26 : structO Try.prog 26 = some [(0, 1), (1, 1), (2, 1), (3, 1)] := by kernel_rfl
theorem so39 : structO Try.prog 39 = some [(0, 1), (1, 1)] := by kernel_rfl
theorem ss22 : isSliceT Try.prog 22 = true := by kernel_rfl
theorem ss23 : isSliceT Try.prog 23 = true := by kernel_rfl
theorem ty22 : tyI Try.prog 22 = some (false, 1) := by kernel_rfl
theorem ty23 : tyI Try.prog 23 = some (false, 1) := by kernel_rfl
theorem ty26 : tyI Try.prog 26 = some (true, 4) := by kernel_rfl
theorem ty39 : tyI Try.prog 39 = some (true, 2) := by kernel_rfl
theorem ty44 : tyI Try.prog 44 = some (true, 2) := by kernel_rfl
theorem ty9 : tyI Try.prog 9 = some (false, 1) := by kernel_rfl
theorem zo26 : zeroOf Try.prog 26 = some (.agg #[.slice none 0 0, .slice none 0 0, .slice none 0 0, .slice none 0 0]) := by kernel_rfl
theorem zo39 : zeroOf Try.prog 39 = some (.agg #[.int .i64 0, .int .i64 0]) := by kernel_rfl
theorem zo44 : zeroOf Try.prog 44 = some (.agg #[.string ⟨#[]⟩, .slice none 0 0]) := by kernel_rfl
open Wm Vb
def F_fine (p : Pg) : Bool :=
  decide ((((F_tyCheck p)).1, ((F_tyCheck p)).2) = ((0, 0) : Int × Int))
set_option maxHeartbeats 4000000 in
theorem fine (I : Hp) (cs_p : List Value) (p : Pg) (h_p : RP I cs_p p) (hgl : GL 0 I) (hz : p.sz ≤ 4294967280) : Fn Try.prog 42 #[.agg (cs_p).toArray] I [] (Ret (X := Unit) (fun x_ I' => True) (fun x_ => .bool (F_fine p)) fun _ => []) := by
 obtain ⟨A1, cp2, A4, cp5, A7, cp8, A10, cp11, rfl, hx3, hx6, hx9, hx12⟩ := RP.open h_p
 refine Fn.of (args := [_]) Try.func42 rfl rfl ?_
 refine JJ.seq ?_
 refine JJ.region rfl fun rg => ?_
 refine JJ.box (cs := [.slice (A1) ((p.procs).length) (cp2), .slice (A4) ((p.main).length) (cp5), .slice (A7) ((p.recover).length) (cp8), .slice (A10) ((p.oracles).length) (cp11)]) rg rfl rfl rfl rfl fun b13 => ?_
 refine JJ.assign rg rfl rfl rfl ?_
 refine JJ.regionEnd ?_
 refine JJ.seq ?_
 refine JJ.region rfl fun rg => ?_
 refine JJ.loadL (v := .agg #[.slice (A1) ((p.procs).length) (cp2), .slice (A4) ((p.main).length) (cp5), .slice (A7) ((p.recover).length) (cp8), .slice (A10) ((p.oracles).length) (cp11)]) ty26 0 rg rfl rfl rfl rfl rfl ?_
 refine JJ.callp bo20 rg rfl rfl rfl rfl (tyCheck _ _ p h_p hgl (by first | assumption | omega)) fun _ I16 hle17 _ => ?_
 refine JJ.build (cells := #[.int .i64 0, .int .i64 0]) zo39 so39 rg rfl rfl rfl rfl ?_
 refine JJ.eqPair pt39 rg rfl rfl rfl rfl ?_
 refine JJ.assign rg rfl rfl rfl ?_
 refine JJ.regionEnd ?_
 have hF : F_fine p = decide ((((F_tyCheck p)).1, ((F_tyCheck p)).2) = ((0, 0) : Int × Int)) := by simp only [F_fine, xb0, xb1, xb2, xb3, xb4, xb5, xb6, xb7, xb8, xb9, xb10, xb11]
 refine JJ.ret1 rfl Try.func42 rfl rfl (fun h h_ => ⟨(), trivial, (by rw [hF]), trivial⟩)
def F_boundSteps_l0  : List Pc → IMap → IMap
  | [], rb18_19 => rb18_19
  | d21 :: LREST, rb18_19 => F_boundSteps_l0 LREST (IMap.set (rb18_19) d21.name (F_steps rb18_19 d21.body))
def F_boundSteps (p : Pg) : Int × Int × Bool :=
  bif !(F_fine p) then ((0, 0, false)) else ((fun rb18_19 => (F_steps rb18_19 p.main, F_steps rb18_19 p.recover, true)) (F_boundSteps_l0 p.procs (([] : IMap))))
set_option maxHeartbeats 4000000 in
theorem boundSteps (I : Hp) (cs_p : List Value) (p : Pg) (h_p : RP I cs_p p) (hgl : GL 0 I) (hz : p.sz ≤ 4294967280) : Fn Try.prog 21 #[.agg (cs_p).toArray] I [] (Ret (X := Unit) (fun x_ I' => True) (fun x_ => .tuple #[.int .i64 ((F_boundSteps p).1), .int .i64 ((F_boundSteps p).2.1), .bool ((F_boundSteps p).2.2)]) fun _ => []) := by
 have hy_p : p.sz = Pc.szl p.procs + St.szl p.main + St.szl p.recover + Oc.szl p.oracles := rfl
 have hl1_p := Pc.szl_len p.procs
 have hl2_p := Oc.szl_len p.oracles
 have hl3_p := St.szl_len p.main
 have hl4_p := St.szl_len p.recover
 obtain ⟨A1, cp2, A4, cp5, A7, cp8, A10, cp11, rfl, hx3, hx6, hx9, hx12⟩ := RP.open h_p
 refine Fn.of (args := [_]) Try.func21 rfl rfl ?_
 refine JJ.seq ?_
 refine JJ.region rfl fun rg => ?_
 refine JJ.box (cs := [.slice (A1) ((p.procs).length) (cp2), .slice (A4) ((p.main).length) (cp5), .slice (A7) ((p.recover).length) (cp8), .slice (A10) ((p.oracles).length) (cp11)]) rg rfl rfl rfl rfl fun b13 => ?_
 refine JJ.assign rg rfl rfl rfl ?_
 refine JJ.assign rg rfl rfl rfl ?_
 refine JJ.assign rg rfl rfl rfl ?_
 refine JJ.regionEnd ?_
 refine JJ.seq ?_
 refine JJ.seq ?_
 refine JJ.region rfl fun rg => ?_
 refine JJ.loadL (v := .agg #[.slice (A1) ((p.procs).length) (cp2), .slice (A4) ((p.main).length) (cp5), .slice (A7) ((p.recover).length) (cp8), .slice (A10) ((p.oracles).length) (cp11)]) ty26 0 rg rfl rfl rfl rfl rfl ?_
 refine JJ.callp bo42 rg rfl rfl rfl rfl (fine _ _ p h_p hgl (by first | assumption | omega)) fun _ I16 hle17 _ => ?_
 refine JJ.not rg rfl rfl rfl ?_
 refine JJ.regionEnd ?_
 refine JJ.cond2 rfl (fun hc1 => ?_) (fun hc1 => ?_)
 ·
  have hc1b := hc1
  replace hc1 := not_t hc1
  replace hc1b := hc1
  refine JJ.seq ?_
  refine JJ.region rfl fun rg => ?_
  refine JJ.assign rg rfl rfl rfl ?_
  refine JJ.assign rg rfl rfl rfl ?_
  refine JJ.assign rg rfl rfl rfl ?_
  refine JJ.regionEnd ?_
  have hF : F_boundSteps p = (0, 0, false) := by simp only [F_boundSteps, hc1b, xb0, xb1, xb2, xb3, xb4, xb5, xb6, xb7, xb8, xb9, xb10, xb11]
  refine JJ.ret3 rfl Try.func21 rfl rfl rfl rfl (fun h h_ => ⟨(), trivial, (by rw [hF]), trivial⟩)
 ·
  have hc1b := hc1
  replace hc1 := not_f hc1
  replace hc1b := hc1
  refine JJ.skip ?_
  refine JJ.seq ?_
  refine JJ.region rfl fun rg => ?_
  refine JJ.makeMapI rg rfl rfl fun b18 => ?_
  refine JJ.assign rg rfl rfl rfl ?_
  refine JJ.regionEnd ?_
  refine JJ.seq ?_
  refine JJ.seq ?_
  refine JJ.region rfl fun rg => ?_
  refine JJ.fieldAddr (a' := ⟨b13, 0, none⟩) fo26_0 rg rfl rfl rfl rfl ?_
  refine JJ.loadL (v := .slice (A1) ((p.procs).length) (cp2)) ty22 1 rg rfl rfl rfl rfl rfl ?_
  refine JJ.lenSlice ss22 rg rfl rfl rfl ?_
  refine JJ.move rg rfl rfl rfl ?_
  refine JJ.regionEnd ?_
  refine JJ.cut (X := Hp × IMap) (fun z => [(1, .pointer (some ⟨b13, 0, none⟩)), (5, .map (some b18))]) (fun z => z.1) (fun z => [mapR b18 (IMap.toS z.2), blk b13 (.cells ([.slice (A1) ((p.procs).length) (cp2), .slice (A4) ((p.main).length) (cp5), .slice (A7) ((p.recover).length) (cp8), .slice (A10) ((p.oracles).length) (cp11)]).toArray 26)])
   (fun z => Hp.le (I16) z.1 ∧ F_boundSteps_l0 p.procs (([] : IMap)) = z.2) (fun hk27 => ?_) ?_
  ·
   refine JJ.block ?_
   refine JJ.induct (X := Nat × Hp × IMap) (fun z => [(1, .pointer (some ⟨b13, 0, none⟩)), (5, .map (some b18)), (13, .slice (A1) ((p.procs).length) (cp2)), (14, .int .i64 ((((p.procs).length : Nat) : Int))), (15, .int .i64 (((z.1 : Nat) : Int)))]) (fun z => z.2.1) (fun z => [mapR b18 (IMap.toS z.2.2), blk b13 (.cells ([.slice (A1) ((p.procs).length) (cp2), .slice (A4) ((p.main).length) (cp5), .slice (A7) ((p.recover).length) (cp8), .slice (A10) ((p.oracles).length) (cp11)]).toArray 26)])
    (fun z => z.1 ≤ (p.procs).length ∧ Hp.le (I16) z.2.1 ∧ F_boundSteps_l0 p.procs (([] : IMap)) = F_boundSteps_l0 (List.drop z.1 p.procs) z.2.2) (fun z => (p.procs).length - z.1)
    (0, I16, ([] : IMap)) ⟨Nat.zero_le _, .refl _, by rw [List.drop_zero]⟩
    (fun h => JJ.keep _ (by repeat (first | exact trivial | refine ⟨rfl, ?_⟩)) h) ?_
   rintro ⟨i20, I22, rb18_19⟩ ⟨hi25, hle23, hsp24⟩ ih26
   try dsimp only at hi25 hle23 hsp24 ih26 ⊢
   rcases Nat.lt_or_ge i20 ((p.procs).length) with hlt_i20 | hge_i20
   ·
    obtain ⟨d21, hd_d21⟩ : ∃ d21, (p.procs)[i20]? = some d21 := ⟨_, List.getElem?_eq_getElem hlt_i20⟩
    have hdr_i20 : List.drop i20 p.procs = d21 :: List.drop (i20 + 1) p.procs := drop_cons hd_d21
    have hz28 := Pc.szl_mem (List.mem_of_getElem? hd_d21)
    have hy29 : (d21).sz = St.szl (d21).body + 1 := rfl
    have hl30 := St.szl_len (d21).body
    refine JJ.seq ?_
    refine JJ.region rfl fun rg => ?_
    refine JJ.bin (v := .bool true) rg rfl rfl rfl rfl (congrArg (fun b => some (Value.bool b)) (decide_eq_true (by omega))) ?_
    refine JJ.regionEnd ?_
    refine JJ.seq ?_
    refine JJ.cond (b := true) rfl ?_
    refine JJ.skip ?_
    refine JJ.seq ?_
    refine JJ.block ?_
    refine JJ.seq ?_
    refine JJ.region rfl fun rg => ?_
    obtain ⟨a31, cs32, hA33, hcap34, -, hre35, hrow36⟩ := RSl.get (hx3.mono (hle17.trans hle23)) hd_d21
    have hlthd_d21 := (List.getElem?_eq_some_iff.1 hd_d21).1
    obtain ⟨A37, cp38, rfl, hx39⟩ := RQ.open hre35
    refine JJ.indexAddrA hA33 (a' := a31.add (i20 * 2)) eo22 rg rfl rfl rfl rfl (by omega) (by omega) rfl ?_
    refine JJ.loadI (v := .agg #[.string (d21.name), .slice (A37) ((d21.body).length) (cp38)]) ty44 rg rfl rfl rfl hrow36 rfl ?_
    refine JJ.alloc (cs := [.string (⟨#[]⟩), .slice (none) (0) (0)]) zo44 rfl rg rfl rfl fun b40 => ?_
    refine JJ.store (cs' := [.string (d21.name), .slice (A37) ((d21.body).length) (cp38)]) ty44 0 rg rfl rfl rfl rfl rfl rfl rfl rfl rfl rfl rfl ?_
    refine JJ.regionEnd ?_
    refine JJ.draw (m := 7) [(1, .pointer (some ⟨b13, 0, none⟩)), (5, .map (some b18)), (7, .pointer (some ⟨b40, 0, none⟩)), (13, .slice (A1) ((p.procs).length) (cp2)), (14, .int .i64 ((((p.procs).length : Nat) : Int))), (15, .int .i64 (((i20 : Nat) : Int)))]
     (fun i => match i with | 0 => fun _ v => v = .map (some b18) | 1 => fun _ v => v = .pointer (some ⟨b40, 0, none⟩) | 2 => fun _ v => v = .string (d21.name) | 3 => fun _ v => v = .map (some b18) | 4 => fun _ v => v = .pointer (some ⟨b40, 1, none⟩) | 5 => fun _ v => v = .slice (A37) ((d21.body).length) (cp38) | 6 => fun I v => ∃ p_ : Unit, v = .int .i64 (F_steps rb18_19 d21.body) ∧ True | _ => fun _ _ => False) mx rfl rfl ?_ (by repeat (first | exact trivial | refine ⟨rfl, ?_⟩)) (fun rg => ?_) (fun rg => ?_)
    ·
     rintro (_ | _ | _ | _ | _ | _ | _ | i) I1_ I2_ v l h
     · exact h
     · exact h
     · exact h
     · exact h
     · exact h
     · exact h
     · obtain ⟨p_, h1, h0⟩ := h; exact ⟨p_, h1, trivial⟩
     · exact h
    ·
     refine ⟨?_, ?_, ?_, ?_, ?_, ?_, ?_, trivial⟩
     ·
      intro is E2 I2_ hle_ hb hd kk_
      obtain ⟨hb1, hb5, hb7, hb13, hb14, hb15, -⟩ := hb
      refine JJ.move rg rfl rfl hb5 (kk_ _ _ (.refl _) rfl)
     ·
      intro is E2 I2_ hle_ hb hd kk_
      obtain ⟨hb1, hb5, hb7, hb13, hb14, hb15, -⟩ := hb
      refine JJ.fieldAddr (a' := ⟨b40, 0, none⟩) fo44_0 rg rfl rfl hb7 rfl (kk_ _ _ (.refl _) rfl)
     ·
      intro is E2 I2_ hle_ hb hd kk_
      obtain ⟨hb1, hb5, hb7, hb13, hb14, hb15, -⟩ := hb
      obtain ⟨d1, v1, e1, g1, s1⟩ := hd 1 (by decide)
      cases e1
      subst s1
      refine JJ.loadL (v := .string (d21.name)) ty9 0 rg rfl rfl g1 rfl rfl (kk_ _ _ (.refl _) rfl)
     ·
      intro is E2 I2_ hle_ hb hd kk_
      obtain ⟨hb1, hb5, hb7, hb13, hb14, hb15, -⟩ := hb
      refine JJ.move rg rfl rfl hb5 (kk_ _ _ (.refl _) rfl)
     ·
      intro is E2 I2_ hle_ hb hd kk_
      obtain ⟨hb1, hb5, hb7, hb13, hb14, hb15, -⟩ := hb
      refine JJ.fieldAddr (a' := ⟨b40, 1, none⟩) fo44_1 rg rfl rfl hb7 rfl (kk_ _ _ (.refl _) rfl)
     ·
      intro is E2 I2_ hle_ hb hd kk_
      obtain ⟨hb1, hb5, hb7, hb13, hb14, hb15, -⟩ := hb
      obtain ⟨d4, v4, e4, g4, s4⟩ := hd 4 (by decide)
      cases e4
      subst s4
      refine JJ.loadL (v := .slice (A37) ((d21.body).length) (cp38)) ty23 0 rg rfl rfl g4 rfl rfl (kk_ _ _ (.refl _) rfl)
     ·
      intro is E2 I2_ hle_ hb hd kk_
      obtain ⟨hb1, hb5, hb7, hb13, hb14, hb15, -⟩ := hb
      obtain ⟨d3, v3, e3, g3, s3⟩ := hd 3 (by decide)
      cases e3
      subst s3
      obtain ⟨d5, v5, e5, g5, s5⟩ := hd 5 (by decide)
      cases e5
      subst s5
      (try dsimp only [List.set])
      refine JJ.call (Lr := [_, _]) bo43 rg rfl rfl rfl (evL_cons g3 (evL_cons g5 rfl)) (steps _ b18 (rb18_19) _ _ d21.body (hx39.mono hle_) (by first | assumption | omega | (simp; done)) (by first | assumption | omega)) (fun h q => q.pull 1 rfl) fun p42 I43 hle44 hp41 => ?_
      exact JJ.res (h := kk_ _ _ hle44 ⟨(), rfl, trivial⟩) (k := fun h q => Sat.put (L := [_, (fun _ => True), _]) 1 (by simp only [List.length_cons]; omega) q)
    intro vs I46 hle45 hs_
    obtain ⟨hv0, hv1, hv2, hv3, hv4, hv5, hv6, -⟩ := hs_
    obtain ⟨_, hv6, _⟩ := hv6
    refine JJ.keep [(1, .pointer (some ⟨b13, 0, none⟩)), (5, .map (some b18)), (13, .slice (A1) ((p.procs).length) (cp2)), (14, .int .i64 ((((p.procs).length : Nat) : Int))), (15, .int .i64 (((i20 : Nat) : Int))), (19, .map (some b18)), (21, .string (d21.name)), (25, .int .i64 (F_steps rb18_19 d21.body))] ⟨rfl, rfl, rfl, rfl, rfl, congrArg some hv0, congrArg some hv2, congrArg some hv6, trivial⟩ ?_
    refine JJ.mapUpdateI sm92 1 rg rfl rfl rfl rfl rfl rfl ?_
    dsimp only [List.set]
    refine JJ.regionEnd ?_
    refine JJ.inBlock ?_
    refine JJ.region rfl fun rg => ?_
    refine JJ.binI (z := ((i20 + 1 : Nat) : Int)) rg rfl rfl rfl rfl rfl (wrap_to (by omega) (by omega) (by omega)) ?_
    refine JJ.move rg rfl rfl rfl ?_
    refine JJ.regionEnd ?_
    refine JJ.drop ?_
    have hnx : F_boundSteps_l0 p.procs (([] : IMap)) = F_boundSteps_l0 (List.drop (i20 + 1) p.procs) (IMap.set (rb18_19) d21.name (F_steps rb18_19 d21.body)) := by rw [hsp24, hdr_i20]; simp only [F_boundSteps_l0, xb0, xb1, xb2, xb3, xb4, xb5, xb6, xb7, xb8, xb9, xb10, xb11]
    refine JJ.keep _ ?_ (ih26 (i20 + 1, I46, IMap.set (rb18_19) d21.name (F_steps rb18_19 d21.body)) ⟨hlt_i20, (hle23.trans hle45), hnx⟩ (by dsimp only; omega))
    repeat (first | exact trivial | refine ⟨rfl, ?_⟩)
   ·
    have heq_i20 : i20 = (p.procs).length := by omega
    have hdr_i20 : List.drop i20 p.procs = [] := by rw [heq_i20]; exact List.drop_length
    refine JJ.seq ?_
    refine JJ.region rfl fun rg => ?_
    refine JJ.bin (v := .bool false) rg rfl rfl rfl rfl (congrArg (fun b => some (Value.bool b)) (decide_eq_false (by omega))) ?_
    refine JJ.regionEnd ?_
    refine JJ.seq ?_
    refine JJ.cond (b := false) rfl ?_
    refine JJ.exit rfl ?_
    have hE : F_boundSteps_l0 p.procs (([] : IMap)) = rb18_19 := by rw [hsp24, hdr_i20]; simp only [F_boundSteps_l0, xb0, xb1, xb2, xb3, xb4, xb5, xb6, xb7, xb8, xb9, xb10, xb11]
    refine JJ.keep _ ?_ (hk27 (I22, rb18_19) ⟨hle23, hE⟩)
    repeat (first | exact trivial | refine ⟨rfl, ?_⟩)
  ·
   rintro ⟨I47, rb18_19⟩ ⟨hle48, hE49⟩
   try dsimp only at hle48 hE49 ⊢
   refine JJ.seq ?_
   refine JJ.draw (m := 8) [(1, .pointer (some ⟨b13, 0, none⟩)), (5, .map (some b18))]
    (fun i => match i with | 0 => fun _ v => v = .map (some b18) | 1 => fun _ v => v = .pointer (some ⟨b13, 1, none⟩) | 2 => fun _ v => v = .slice (A4) ((p.main).length) (cp5) | 3 => fun I v => ∃ p_ : Unit, v = .int .i64 (F_steps rb18_19 p.main) ∧ True | 4 => fun _ v => v = .map (some b18) | 5 => fun _ v => v = .pointer (some ⟨b13, 2, none⟩) | 6 => fun _ v => v = .slice (A7) ((p.recover).length) (cp8) | 7 => fun I v => ∃ p_ : Unit, v = .int .i64 (F_steps rb18_19 p.recover) ∧ True | _ => fun _ _ => False) mx rfl rfl ?_ (by repeat (first | exact trivial | refine ⟨rfl, ?_⟩)) (fun rg => ?_) (fun rg => ?_)
   ·
    rintro (_ | _ | _ | _ | _ | _ | _ | _ | i) I1_ I2_ v l h
    · exact h
    · exact h
    · exact h
    · obtain ⟨p_, h1, h0⟩ := h; exact ⟨p_, h1, trivial⟩
    · exact h
    · exact h
    · exact h
    · obtain ⟨p_, h1, h0⟩ := h; exact ⟨p_, h1, trivial⟩
    · exact h
   ·
    refine ⟨?_, ?_, ?_, ?_, ?_, ?_, ?_, ?_, trivial⟩
    ·
     intro is E2 I2_ hle_ hb hd kk_
     obtain ⟨hb1, hb5, -⟩ := hb
     refine JJ.move rg rfl rfl hb5 (kk_ _ _ (.refl _) rfl)
    ·
     intro is E2 I2_ hle_ hb hd kk_
     obtain ⟨hb1, hb5, -⟩ := hb
     refine JJ.fieldAddr (a' := ⟨b13, 1, none⟩) fo26_1 rg rfl rfl hb1 rfl (kk_ _ _ (.refl _) rfl)
    ·
     intro is E2 I2_ hle_ hb hd kk_
     obtain ⟨hb1, hb5, -⟩ := hb
     obtain ⟨d1, v1, e1, g1, s1⟩ := hd 1 (by decide)
     cases e1
     subst s1
     refine JJ.loadL (v := .slice (A4) ((p.main).length) (cp5)) ty23 1 rg rfl rfl g1 rfl rfl (kk_ _ _ (.refl _) rfl)
    ·
     intro is E2 I2_ hle_ hb hd kk_
     obtain ⟨hb1, hb5, -⟩ := hb
     obtain ⟨d0, v0, e0, g0, s0⟩ := hd 0 (by decide)
     cases e0
     subst s0
     obtain ⟨d2, v2, e2, g2, s2⟩ := hd 2 (by decide)
     cases e2
     subst s2
     (try dsimp only [List.set])
     refine JJ.call (Lr := [_]) bo43 rg rfl rfl rfl (evL_cons g0 (evL_cons g2 rfl)) (steps _ b18 (rb18_19) _ _ p.main (hx6.mono (hle17.trans (hle48.trans hle_))) (by first | assumption | omega | (simp; done)) (by first | assumption | omega)) (fun h q => q.pull 0 rfl) fun p51 I52 hle53 hp50 => ?_
     exact JJ.res (h := kk_ _ _ hle53 ⟨(), rfl, trivial⟩) (k := fun h q => Sat.put (L := [(fun _ => True), _]) 0 (by simp only [List.length_cons]; omega) q)
    ·
     intro is E2 I2_ hle_ hb hd kk_
     obtain ⟨hb1, hb5, -⟩ := hb
     refine JJ.move rg rfl rfl hb5 (kk_ _ _ (.refl _) rfl)
    ·
     intro is E2 I2_ hle_ hb hd kk_
     obtain ⟨hb1, hb5, -⟩ := hb
     refine JJ.fieldAddr (a' := ⟨b13, 2, none⟩) fo26_2 rg rfl rfl hb1 rfl (kk_ _ _ (.refl _) rfl)
    ·
     intro is E2 I2_ hle_ hb hd kk_
     obtain ⟨hb1, hb5, -⟩ := hb
     obtain ⟨d5, v5, e5, g5, s5⟩ := hd 5 (by decide)
     cases e5
     subst s5
     refine JJ.loadL (v := .slice (A7) ((p.recover).length) (cp8)) ty23 1 rg rfl rfl g5 rfl rfl (kk_ _ _ (.refl _) rfl)
    ·
     intro is E2 I2_ hle_ hb hd kk_
     obtain ⟨hb1, hb5, -⟩ := hb
     obtain ⟨d3, v3, e3, g3, s3⟩ := hd 3 (by decide)
     cases e3
     obtain ⟨_, rfl, _⟩ := s3
     obtain ⟨d4, v4, e4, g4, s4⟩ := hd 4 (by decide)
     cases e4
     subst s4
     obtain ⟨d6, v6, e6, g6, s6⟩ := hd 6 (by decide)
     cases e6
     subst s6
     (try dsimp only [List.set])
     refine JJ.call (Lr := [_]) bo43 rg rfl rfl rfl (evL_cons g4 (evL_cons g6 rfl)) (steps _ b18 (rb18_19) _ _ p.recover (hx9.mono (hle17.trans (hle48.trans hle_))) (by first | assumption | omega | (simp; done)) (by first | assumption | omega)) (fun h q => q.pull 0 rfl) fun p55 I56 hle57 hp54 => ?_
     exact JJ.res (h := kk_ _ _ hle57 ⟨(), rfl, trivial⟩) (k := fun h q => Sat.put (L := [(fun _ => True), _]) 0 (by simp only [List.length_cons]; omega) q)
   intro vs I59 hle58 hs_
   obtain ⟨hv0, hv1, hv2, hv3, hv4, hv5, hv6, hv7, -⟩ := hs_
   obtain ⟨_, hv3, _⟩ := hv3
   obtain ⟨_, hv7, _⟩ := hv7
   refine JJ.keep [(30, .int .i64 (F_steps rb18_19 p.main)), (34, .int .i64 (F_steps rb18_19 p.recover))] ⟨congrArg some hv3, congrArg some hv7, trivial⟩ ?_
   refine JJ.assign rg rfl rfl rfl ?_
   refine JJ.assign rg rfl rfl rfl ?_
   refine JJ.assign rg rfl rfl rfl ?_
   refine JJ.regionEnd ?_
   have hF : F_boundSteps p = (F_steps rb18_19 p.main, F_steps rb18_19 p.recover, true) := by simp only [F_boundSteps, hc1b, hE49, xb0, xb1, xb2, xb3, xb4, xb5, xb6, xb7, xb8, xb9, xb10, xb11]
   refine JJ.ret3 rfl Try.func21 rfl rfl rfl rfl (fun h h_ => ⟨(), trivial, (by rw [hF]), trivial⟩)
def F_boundCheck (p : Pg) : (Int × Int) :=
  bif !decide ((((F_tyCheck p)).1, ((F_tyCheck p)).2) = ((0, 0) : Int × Int)) then ((((F_tyCheck p)).1, ((F_tyCheck p)).2)) else (bif decide ((65537 : Int) = (F_boundSteps p).1) then ((13, (((Pg.alls (Pg.mk p.procs ([] : List St) ([] : List St) ([] : List Oc))).length : Nat) : Int))) else (bif decide ((65537 : Int) = (F_boundSteps p).2.1) then ((13, IntKind.i64.wrap ((((Pg.alls (Pg.mk p.procs ([] : List St) ([] : List St) ([] : List Oc))).length : Nat) : Int) + (F_count p.main)))) else ((0, 0))))
set_option maxHeartbeats 4000000 in
theorem boundCheck (I : Hp) (cs_p : List Value) (p : Pg) (h_p : RP I cs_p p) (hgl : GL 0 I) (hz : p.sz ≤ 4294967280) : Fn Try.prog 10 #[.agg (cs_p).toArray] I [] (Ret (X := Unit) (fun x_ I' => True) (fun x_ => .agg [.int .i64 (((F_boundCheck p)).1), .int .i64 (((F_boundCheck p)).2)].toArray) fun _ => []) := by
 have hy_p : p.sz = Pc.szl p.procs + St.szl p.main + St.szl p.recover + Oc.szl p.oracles := rfl
 have hl1_p := Pc.szl_len p.procs
 have hl2_p := Oc.szl_len p.oracles
 have hl3_p := St.szl_len p.main
 have hl4_p := St.szl_len p.recover
 obtain ⟨A1, cp2, A4, cp5, A7, cp8, A10, cp11, rfl, hx3, hx6, hx9, hx12⟩ := RP.open h_p
 refine Fn.of (args := [_]) Try.func10 rfl rfl ?_
 refine JJ.seq ?_
 refine JJ.region rfl fun rg => ?_
 refine JJ.box (cs := [.slice (A1) ((p.procs).length) (cp2), .slice (A4) ((p.main).length) (cp5), .slice (A7) ((p.recover).length) (cp8), .slice (A10) ((p.oracles).length) (cp11)]) rg rfl rfl rfl rfl fun b13 => ?_
 refine JJ.alloc (cs := [.int .i64 0, .int .i64 0]) zo39 rfl rg rfl rfl fun b14 => ?_
 refine JJ.regionEnd ?_
 refine JJ.seq ?_
 refine JJ.seq ?_
 refine JJ.region rfl fun rg => ?_
 refine JJ.loadL (v := .agg #[.slice (A1) ((p.procs).length) (cp2), .slice (A4) ((p.main).length) (cp5), .slice (A7) ((p.recover).length) (cp8), .slice (A10) ((p.oracles).length) (cp11)]) ty26 1 rg rfl rfl rfl rfl rfl ?_
 refine JJ.callp bo20 rg rfl rfl rfl rfl (tyCheck _ _ p h_p hgl (by first | assumption | omega)) fun _ I17 hle18 _ => ?_
 refine JJ.alloc (cs := [.int .i64 0, .int .i64 0]) zo39 rfl rg rfl rfl fun b19 => ?_
 refine JJ.store (cs' := [.int .i64 (((F_tyCheck p)).1), .int .i64 (((F_tyCheck p)).2)]) ty39 0 rg rfl rfl rfl rfl rfl rfl rfl rfl rfl rfl rfl ?_
 refine JJ.regionEnd ?_
 refine JJ.seq ?_
 refine JJ.region rfl fun rg => ?_
 refine JJ.loadL (v := .agg #[.int .i64 (((F_tyCheck p)).1), .int .i64 (((F_tyCheck p)).2)]) ty39 0 rg rfl rfl rfl rfl rfl ?_
 refine JJ.build (cells := #[.int .i64 0, .int .i64 0]) zo39 so39 rg rfl rfl rfl rfl ?_
 refine JJ.nePair pt39 rg rfl rfl rfl rfl ?_
 refine JJ.regionEnd ?_
 refine JJ.cond2 rfl (fun hc2 => ?_) (fun hc2 => ?_)
 ·
  have hc2b := hc2
  replace hc2 := not_t hc2
  replace hc2b := hc2
  replace hc2 := of_decide_eq_false hc2
  refine JJ.seq ?_
  refine JJ.region rfl fun rg => ?_
  refine JJ.loadL (v := .agg #[.int .i64 (((F_tyCheck p)).1), .int .i64 (((F_tyCheck p)).2)]) ty39 0 rg rfl rfl rfl rfl rfl ?_
  refine JJ.store (cs' := [.int .i64 (((F_tyCheck p)).1), .int .i64 (((F_tyCheck p)).2)]) ty39 1 rg rfl rfl rfl rfl rfl rfl rfl rfl rfl rfl rfl ?_
  refine JJ.regionEnd ?_
  have hF : F_boundCheck p = (((F_tyCheck p)).1, ((F_tyCheck p)).2) := by simp only [F_boundCheck, hc2b, xb0, xb1, xb2, xb3, xb4, xb5, xb6, xb7, xb8, xb9, xb10, xb11]
  refine JJ.retc (v := .agg #[.int .i64 (((F_tyCheck p)).1), .int .i64 (((F_tyCheck p)).2)]) ty39 1 rfl Try.func10 rfl rfl rfl rfl (fun h h_ => ⟨(), trivial, (by rw [hF]), trivial⟩)
 ·
  have hc2b := hc2
  replace hc2 := not_f hc2
  replace hc2b := hc2
  replace hc2 := of_decide_eq_true hc2
  refine JJ.skip ?_
  refine JJ.seq ?_
  refine JJ.region rfl fun rg => ?_
  refine JJ.fieldAddr (a' := ⟨b13, 0, none⟩) fo26_0 rg rfl rfl rfl rfl ?_
  refine JJ.loadL (v := .slice (A1) ((p.procs).length) (cp2)) ty22 2 rg rfl rfl rfl rfl rfl ?_
  refine JJ.build (cells := #[.slice (A1) ((p.procs).length) (cp2), .slice (none) (0) (0), .slice (none) (0) (0), .slice (none) (0) (0)]) zo26 so26 rg rfl rfl rfl rfl ?_
  refine JJ.callp bo8 rg rfl rfl rfl rfl (all _ _ (Pg.mk p.procs ([] : List St) ([] : List St) ([] : List Oc)) (RP.mk (hx3.mono hle18) RTs.nil RTs.nil ROs.nil) (by simp only [Pg.sz, Pc.szl, St.szl, Oc.szl]; omega)) fun p23 I24 hle25 hp22 => ?_
  obtain ⟨A20, cp21⟩ := p23
  obtain ⟨hx26, hn27⟩ := hp22
  (try dsimp only at hx26 hn27)
  refine JJ.lenSlice ss23 rg rfl rfl rfl ?_
  refine JJ.assign rg rfl rfl rfl ?_
  refine JJ.regionEnd ?_
  refine JJ.seq ?_
  refine JJ.seq ?_
  refine JJ.region rfl fun rg => ?_
  refine JJ.loadL (v := .agg #[.slice (A1) ((p.procs).length) (cp2), .slice (A4) ((p.main).length) (cp5), .slice (A7) ((p.recover).length) (cp8), .slice (A10) ((p.oracles).length) (cp11)]) ty26 2 rg rfl rfl rfl rfl rfl ?_
  refine JJ.callp bo21 rg rfl rfl rfl rfl (boundSteps _ _ p (h_p.mono (hle18.trans hle25)) (hgl.mono (hle18.trans hle25)) (by first | assumption | omega)) fun _ I30 hle31 _ => ?_
  refine JJ.move rg rfl rfl rfl ?_
  refine JJ.extract rg rfl rfl rfl rfl ?_
  refine JJ.extract rg rfl rfl rfl rfl ?_
  refine JJ.extract rg rfl rfl rfl rfl ?_
  refine JJ.assign rg rfl rfl rfl ?_
  refine JJ.assign rg rfl rfl rfl ?_
  refine JJ.assign rg rfl rfl rfl ?_
  refine JJ.regionEnd ?_
  refine JJ.block ?_
  refine JJ.seq ?_
  refine JJ.region rfl fun rg => ?_
  refine JJ.move rg rfl rfl rfl ?_
  refine JJ.bin rg rfl rfl rfl rfl rfl ?_
  refine JJ.assign rg rfl rfl rfl ?_
  refine JJ.regionEnd ?_
  refine JJ.cond2 rfl (fun hc6 => ?_) (fun hc6 => ?_)
  ·
   have hc6b := hc6
   replace hc6 := of_decide_eq_true hc6
   refine JJ.seq ?_
   refine JJ.region rfl fun rg => ?_
   refine JJ.move rg rfl rfl rfl ?_
   refine JJ.build (cells := #[.int .i64 13, .int .i64 ((((Pg.alls (Pg.mk p.procs ([] : List St) ([] : List St) ([] : List Oc))).length : Nat) : Int))]) zo39 so39 rg rfl rfl rfl rfl ?_
   refine JJ.store (cs' := [.int .i64 13, .int .i64 ((((Pg.alls (Pg.mk p.procs ([] : List St) ([] : List St) ([] : List Oc))).length : Nat) : Int))]) ty39 1 rg rfl rfl rfl rfl rfl rfl rfl rfl rfl rfl rfl ?_
   refine JJ.regionEnd ?_
   have hF : F_boundCheck p = (13, (((Pg.alls (Pg.mk p.procs ([] : List St) ([] : List St) ([] : List Oc))).length : Nat) : Int)) := by simp only [F_boundCheck, hc2b, hc6b, xb0, xb1, xb2, xb3, xb4, xb5, xb6, xb7, xb8, xb9, xb10, xb11]
   refine JJ.retc (v := .agg #[.int .i64 13, .int .i64 ((((Pg.alls (Pg.mk p.procs ([] : List St) ([] : List St) ([] : List Oc))).length : Nat) : Int))]) ty39 1 rfl Try.func10 rfl rfl rfl rfl (fun h h_ => ⟨(), trivial, (by rw [hF]), trivial⟩)
  ·
   have hc6b := hc6
   replace hc6 := of_decide_eq_false hc6
   refine JJ.seq ?_
   refine JJ.region rfl fun rg => ?_
   refine JJ.move rg rfl rfl rfl ?_
   refine JJ.bin rg rfl rfl rfl rfl rfl ?_
   refine JJ.assign rg rfl rfl rfl ?_
   refine JJ.regionEnd ?_
   refine JJ.cond2 rfl (fun hc8 => ?_) (fun hc8 => ?_)
   ·
    have hc8b := hc8
    replace hc8 := of_decide_eq_true hc8
    refine JJ.seq ?_
    refine JJ.region rfl fun rg => ?_
    refine JJ.move rg rfl rfl rfl ?_
    refine JJ.fieldAddr (a' := ⟨b13, 1, none⟩) fo26_1 rg rfl rfl rfl rfl ?_
    refine JJ.loadL (v := .slice (A4) ((p.main).length) (cp5)) ty23 2 rg rfl rfl rfl rfl rfl ?_
    refine JJ.callp bo22 rg rfl rfl rfl rfl (count _ _ _ p.main (hx6.mono (hle18.trans (hle25.trans hle31))) (by first | assumption | omega | (simp; done)) (by first | assumption | omega)) fun _ I34 hle35 _ => ?_
    refine JJ.binI (z := IntKind.i64.wrap ((((Pg.alls (Pg.mk p.procs ([] : List St) ([] : List St) ([] : List Oc))).length : Nat) : Int) + (F_count p.main))) rg rfl rfl rfl rfl rfl rfl ?_
    refine JJ.build (cells := #[.int .i64 13, .int .i64 (IntKind.i64.wrap ((((Pg.alls (Pg.mk p.procs ([] : List St) ([] : List St) ([] : List Oc))).length : Nat) : Int) + (F_count p.main)))]) zo39 so39 rg rfl rfl rfl rfl ?_
    refine JJ.store (cs' := [.int .i64 13, .int .i64 (IntKind.i64.wrap ((((Pg.alls (Pg.mk p.procs ([] : List St) ([] : List St) ([] : List Oc))).length : Nat) : Int) + (F_count p.main)))]) ty39 1 rg rfl rfl rfl rfl rfl rfl rfl rfl rfl rfl rfl ?_
    refine JJ.regionEnd ?_
    have hF : F_boundCheck p = (13, IntKind.i64.wrap ((((Pg.alls (Pg.mk p.procs ([] : List St) ([] : List St) ([] : List Oc))).length : Nat) : Int) + (F_count p.main))) := by simp only [F_boundCheck, hc2b, hc6b, hc8b, xb0, xb1, xb2, xb3, xb4, xb5, xb6, xb7, xb8, xb9, xb10, xb11]
    refine JJ.retc (v := .agg #[.int .i64 13, .int .i64 (IntKind.i64.wrap ((((Pg.alls (Pg.mk p.procs ([] : List St) ([] : List St) ([] : List Oc))).length : Nat) : Int) + (F_count p.main)))]) ty39 1 rfl Try.func10 rfl rfl rfl rfl (fun h h_ => ⟨(), trivial, (by rw [hF]), trivial⟩)
   ·
    have hc8b := hc8
    replace hc8 := of_decide_eq_false hc8
    refine JJ.skip ?_
    refine JJ.inBlock ?_
    refine JJ.seq ?_
    refine JJ.region rfl fun rg => ?_
    refine JJ.build (cells := #[.int .i64 0, .int .i64 0]) zo39 so39 rg rfl rfl rfl rfl ?_
    refine JJ.store (cs' := [.int .i64 0, .int .i64 0]) ty39 1 rg rfl rfl rfl rfl rfl rfl rfl rfl rfl rfl rfl ?_
    refine JJ.regionEnd ?_
    have hF : F_boundCheck p = (0, 0) := by simp only [F_boundCheck, hc2b, hc6b, hc8b, xb0, xb1, xb2, xb3, xb4, xb5, xb6, xb7, xb8, xb9, xb10, xb11]
    refine JJ.retc (v := .agg #[.int .i64 0, .int .i64 0]) ty39 1 rfl Try.func10 rfl rfl rfl rfl (fun h h_ => ⟨(), trivial, (by rw [hF]), trivial⟩)
end Wn
end Go.Proofs.Ytlcdafeoionnhaa
