/- Walks of functions, printed by a program of this session (wip/tool/eng.py). -/
import Derived.Test.YtlcdafeoionnhaaProg
import Derived.Test.YtlcdafeoionnhaaAuto
namespace Go.Proofs.Ytlcdafeoionnhaa
open Go
set_option linter.unusedVariables false
set_option linter.unusedSimpArgs false
namespace Va
theorem bo11 : bodyOk Try.prog 11 = true := by kernel_rfl
theorem bo15 : bodyOk Try.prog 15 = true := by kernel_rfl
theorem bo16 : bodyOk Try.prog 16 = true := by kernel_rfl
theorem bo23 : bodyOk Try.prog 23 = true := by kernel_rfl
theorem bo24 : bodyOk Try.prog 24 = true := by kernel_rfl
theorem bo36 : bodyOk Try.prog 36 = true := by kernel_rfl
theorem eo22 : elemO Try.prog 22 = some (44, 2) := by kernel_rfl
theorem eo23 : elemO Try.prog 23 = some (35, 7) := by kernel_rfl
theorem eo24 : elemO Try.prog 24 = some (55, 5) := by kernel_rfl
theorem eo33 : elemO Try.prog 33 = some (53, 4) := by kernel_rfl
theorem fo26_0 : fieldO Try.prog 26 0 = some 0 := by kernel_rfl
theorem fo26_1 : fieldO Try.prog 26 1 = some 1 := by kernel_rfl
theorem fo26_2 : fieldO Try.prog 26 2 = some 2 := by kernel_rfl
theorem fo26_3 : fieldO Try.prog 26 3 = some 3 := by kernel_rfl
theorem fo35_0 : fieldO Try.prog 35 0 = some 0 := by kernel_rfl
theorem fo35_1 : fieldO Try.prog 35 1 = some 1 := by kernel_rfl
theorem fo35_2 : fieldO Try.prog 35 2 = some 2 := by kernel_rfl
theorem fo35_3 : fieldO Try.prog 35 3 = some 3 := by kernel_rfl
theorem fo35_4 : fieldO Try.prog 35 4 = some 4 := by kernel_rfl
theorem fo35_5 : fieldO Try.prog 35 5 = some 5 := by kernel_rfl
theorem fo35_6 : fieldO Try.prog 35 6 = some 6 := by kernel_rfl
theorem fo39_0 : fieldO Try.prog 39 0 = some 0 := by kernel_rfl
theorem fo39_1 : fieldO Try.prog 39 1 = some 1 := by kernel_rfl
theorem fo44_0 : fieldO Try.prog 44 0 = some 0 := by kernel_rfl
theorem fo44_1 : fieldO Try.prog 44 1 = some 1 := by kernel_rfl
theorem fo53_0 : fieldO Try.prog 53 0 = some 0 := by kernel_rfl
theorem fo53_1 : fieldO Try.prog 53 1 = some 1 := by kernel_rfl
theorem fo53_2 : fieldO Try.prog 53 2 = some 2 := by kernel_rfl
theorem fo53_3 : fieldO Try.prog 53 3 = some 3 := by kernel_rfl
theorem fo55_0 : fieldO Try.prog 55 0 = some 0 := by kernel_rfl
theorem fo55_1 : fieldO Try.prog 55 1 = some 1 := by kernel_rfl
theorem ib4 : isBoolT Try.prog 4 = true := by kernel_rfl
theorem mx : Try.prog.follows .mixedOrders = true := by kernel_rfl
theorem ss22 : isSliceT Try.prog 22 = true := by kernel_rfl
theorem ss23 : isSliceT Try.prog 23 = true := by kernel_rfl
theorem ss24 : isSliceT Try.prog 24 = true := by kernel_rfl
theorem ss33 : isSliceT Try.prog 33 = true := by kernel_rfl
theorem st9 : isStringT Try.prog 9 = true := by kernel_rfl
theorem ty2 : tyI Try.prog 2 = some (false, 1) := by kernel_rfl
theorem ty22 : tyI Try.prog 22 = some (false, 1) := by kernel_rfl
theorem ty23 : tyI Try.prog 23 = some (false, 1) := by kernel_rfl
theorem ty24 : tyI Try.prog 24 = some (false, 1) := by kernel_rfl
theorem ty26 : tyI Try.prog 26 = some (true, 4) := by kernel_rfl
theorem ty3 : tyI Try.prog 3 = some (false, 1) := by kernel_rfl
theorem ty33 : tyI Try.prog 33 = some (false, 1) := by kernel_rfl
theorem ty35 : tyI Try.prog 35 = some (true, 7) := by kernel_rfl
theorem ty37 : tyI Try.prog 37 = some (false, 1) := by kernel_rfl
theorem ty4 : tyI Try.prog 4 = some (false, 1) := by kernel_rfl
theorem ty53 : tyI Try.prog 53 = some (true, 4) := by kernel_rfl
theorem ty9 : tyI Try.prog 9 = some (false, 1) := by kernel_rfl
def F_lawFault (a : Int × Int) (b : Int × Int) : Bool :=
  ((decide ((a.1 : Int) = b.1)) && (decide ((a.2 : Int) = b.2)))
set_option maxHeartbeats 4000000 in
theorem lawFault (I : Hp) (a : Int × Int) (b : Int × Int) : Fn Try.prog 9 #[.agg #[.int .i64 (a.1), .int .i64 (a.2)], .agg #[.int .i64 (b.1), .int .i64 (b.2)]] I [] (Ret (X := Unit) (fun x_ I' => True) (fun x_ => .bool (F_lawFault a b)) fun _ => []) := by
 refine Fn.of (args := [_, _]) Try.func9 rfl rfl ?_
 refine JJ.seq ?_
 refine JJ.region rfl fun rg => ?_
 refine JJ.box (cs := [.int .i64 (a.1), .int .i64 (a.2)]) rg rfl rfl rfl rfl fun b1 => ?_
 refine JJ.box (cs := [.int .i64 (b.1), .int .i64 (b.2)]) rg rfl rfl rfl rfl fun b2 => ?_
 refine JJ.assign rg rfl rfl rfl ?_
 refine JJ.regionEnd ?_
 refine JJ.seq ?_
 refine JJ.cut (X := Hp) (fun _ => [(4, .bool (((decide ((a.1 : Int) = b.1)) && (decide ((a.2 : Int) = b.2)))))]) (fun x => x) (fun _ => [blk b2 (.cells ([.int .i64 (b.1), .int .i64 (b.2)]).toArray 39), blk b1 (.cells ([.int .i64 (a.1), .int .i64 (a.2)]).toArray 39)]) (fun x => Hp.le (I) x) (fun hk3 => ?_) ?_
 ·
  refine JJ.region rfl fun rg => ?_
  refine JJ.fieldAddr (a' := ⟨b1, 0, none⟩) fo39_0 rg rfl rfl rfl rfl ?_
  refine JJ.loadL (v := .int .i64 (a.1)) ty37 1 rg rfl rfl rfl rfl rfl ?_
  refine JJ.fieldAddr (a' := ⟨b2, 0, none⟩) fo39_0 rg rfl rfl rfl rfl ?_
  refine JJ.loadL (v := .int .i64 (b.1)) ty37 0 rg rfl rfl rfl rfl rfl ?_
  refine JJ.bin rg rfl rfl rfl rfl rfl ?_
  refine JJ.move rg rfl rfl rfl ?_
  refine JJ.split 10 rfl (fun hg1_6 => ?_) (fun hg1_6 => ?_)
  ·
   have hg1_6b := hg1_6
   replace hg1_6 := of_decide_eq_true hg1_6
   refine JJ.fieldAddr (a' := ⟨b1, 1, none⟩) fo39_1 rg rfl rfl rfl rfl ?_
   refine JJ.loadL (v := .int .i64 (a.2)) ty3 1 rg rfl rfl rfl rfl rfl ?_
   refine JJ.fieldAddr (a' := ⟨b2, 1, none⟩) fo39_1 rg rfl rfl rfl rfl ?_
   refine JJ.loadL (v := .int .i64 (b.2)) ty3 0 rg rfl rfl rfl rfl rfl ?_
   refine JJ.bin rg rfl rfl rfl rfl rfl ?_
   refine JJ.pick (b := true) rg rfl rfl rfl rfl ?_
   refine JJ.assign rg rfl rfl rfl ?_
   refine JJ.regionEnd ?_
   refine JJ.keep _ ?_ (hk3 _ (.refl _))
   exact ⟨congrArg (fun b => some (Value.bool b)) (by simp only [hg1_6b, xb0, xb1, xb2, xb3, xb4, xb5, xb6, xb7, xb8, xb9, xb10, xb11]), trivial⟩
  ·
   have hg1_6b := hg1_6
   replace hg1_6 := of_decide_eq_false hg1_6
   refine JJ.gskip rg rfl rfl ?_
   refine JJ.gskip rg rfl rfl ?_
   refine JJ.gskip rg rfl rfl ?_
   refine JJ.gskip rg rfl rfl ?_
   refine JJ.gskip rg rfl rfl ?_
   refine JJ.pick (b := false) rg rfl rfl rfl rfl ?_
   refine JJ.assign rg rfl rfl rfl ?_
   refine JJ.regionEnd ?_
   refine JJ.keep _ ?_ (hk3 _ (.refl _))
   exact ⟨congrArg (fun b => some (Value.bool b)) (by simp only [hg1_6b, xb0, xb1, xb2, xb3, xb4, xb5, xb6, xb7, xb8, xb9, xb10, xb11]), trivial⟩
 ·
  intro I4 hle5
  have hF : F_lawFault a b = ((decide ((a.1 : Int) = b.1)) && (decide ((a.2 : Int) = b.2))) := by simp only [F_lawFault, xb0, xb1, xb2, xb3, xb4, xb5, xb6, xb7, xb8, xb9, xb10, xb11]
  refine JJ.ret1 rfl Try.func9 rfl rfl (fun h h_ => ⟨(), trivial, (by rw [hF]), trivial⟩)
mutual
def F_sizeX_l0 (left : Int) : List Ex → Int → Sum (Int) (Int)
  | [], v5_8 => .inr v5_8
  | d10 :: LREST, v5_8 => bif decide ((left : Int) < IntKind.i64.wrap (v5_8 + (F_sizeX d10 (IntKind.i64.wrap (left - v5_8))))) then (.inl (IntKind.i64.wrap (left + 1))) else (F_sizeX_l0 left LREST (IntKind.i64.wrap (v5_8 + (F_sizeX d10 (IntKind.i64.wrap (left - v5_8))))))
  termination_by l _ => 2 * Ex.szl l + 1
  decreasing_by all_goals ((try simp only [Ex.szl, Ex.sz_eq, St.szl, St.sz_eq]); omega)
def F_sizeX (x : Ex) (left : Int) : Int :=
  bif ((decide ((left : Int) < 1)) || (decide ((300 : Int) < ((x.s).size : Int)))) then (IntKind.i64.wrap (left + 1)) else ((match F_sizeX_l0 left x.x 1 with | .inl r_ => r_ | .inr v5_8 => v5_8))
  termination_by 2 * x.sz
  decreasing_by all_goals ((try simp only [Ex.szl, Ex.sz_eq, St.szl, St.sz_eq]); omega)
end
set_option maxHeartbeats 4000000 in
theorem sizeX_rec : ∀ (N : Nat) (I : Hp) (cs_x : List Value) (x : Ex) (h_x : RX I cs_x x) (left : Int) (hz : x.sz ≤ 4294967296) (hN : x.sz < N), Fn Try.prog 24 #[.agg (cs_x).toArray, .int .i64 (left)] I [] (Ret (X := Unit) (fun x_ I' => True) (fun x_ => .int .i64 (F_sizeX x left)) fun _ => []) := by
 intro N
 induction N with
 | zero => intro I cs_x x h_x left hz hN; exact absurd hN (by omega)
 | succ N ih =>
 intro I cs_x x h_x left hz hN
 have hy_x := x.sz_eq
 have hl_x := Ex.szl_len x.x
 obtain ⟨A1, cp2, rfl, hx3⟩ := RX.open h_x
 refine Fn.of (args := [_, _]) Try.func24 rfl rfl ?_
 refine JJ.seq ?_
 refine JJ.region rfl fun rg => ?_
 refine JJ.box (cs := [.int .i64 (x.op), .int .i64 (x.n), .string (x.s), .slice (A1) ((x.x).length) (cp2)]) rg rfl rfl rfl rfl fun b4 => ?_
 refine JJ.assign rg rfl rfl rfl ?_
 refine JJ.regionEnd ?_
 refine JJ.seq ?_
 refine JJ.seq ?_
 refine JJ.cut (X := Hp) (fun _ => [(14, .bool (((decide ((left : Int) < 1)) || (decide ((300 : Int) < ((x.s).size : Int)))))), (1, .int .i64 (left)), (2, .pointer (some ⟨b4, 0, none⟩))]) (fun x => x) (fun _ => [blk b4 (.cells ([.int .i64 (x.op), .int .i64 (x.n), .string (x.s), .slice (A1) ((x.x).length) (cp2)]).toArray 53)]) (fun x => Hp.le (I) x) (fun hk5 => ?_) ?_
 ·
  refine JJ.region rfl fun rg => ?_
  refine JJ.move rg rfl rfl rfl ?_
  refine JJ.bin rg rfl rfl rfl rfl rfl ?_
  refine JJ.move rg rfl rfl rfl ?_
  refine JJ.split 9 rfl (fun hg1_3 => ?_) (fun hg1_3 => ?_)
  ·
   have hg1_3b := hg1_3
   replace hg1_3 := of_decide_eq_true hg1_3
   refine JJ.gskip rg rfl rfl ?_
   refine JJ.gskip rg rfl rfl ?_
   refine JJ.gskip rg rfl rfl ?_
   refine JJ.gskip rg rfl rfl ?_
   refine JJ.pick (b := true) rg rfl rfl rfl rfl ?_
   refine JJ.regionEnd ?_
   refine JJ.keep _ ?_ (hk5 _ (.refl _))
   exact ⟨congrArg (fun b => some (Value.bool b)) (by simp only [hg1_3b, xb0, xb1, xb2, xb3, xb4, xb5, xb6, xb7, xb8, xb9, xb10, xb11]), rfl, rfl, trivial⟩
  ·
   have hg1_3b := hg1_3
   replace hg1_3 := of_decide_eq_false hg1_3
   refine JJ.fieldAddr (a' := ⟨b4, 2, none⟩) fo53_2 rg rfl rfl rfl rfl ?_
   refine JJ.loadL (v := .string (x.s)) ty9 0 rg rfl rfl rfl rfl rfl ?_
   refine JJ.lenString st9 rg rfl rfl rfl ?_
   refine JJ.bin rg rfl rfl rfl rfl rfl ?_
   refine JJ.pick (b := false) rg rfl rfl rfl rfl ?_
   refine JJ.regionEnd ?_
   refine JJ.keep _ ?_ (hk5 _ (.refl _))
   exact ⟨congrArg (fun b => some (Value.bool b)) (by simp only [hg1_3b, xb0, xb1, xb2, xb3, xb4, xb5, xb6, xb7, xb8, xb9, xb10, xb11]), rfl, rfl, trivial⟩
 ·
  intro I6 hle7
  refine JJ.cond2 rfl (fun hc1 => ?_) (fun hc1 => ?_)
  ·
   have hc1b := hc1
   refine JJ.seq ?_
   refine JJ.region rfl fun rg => ?_
   refine JJ.move rg rfl rfl rfl ?_
   refine JJ.binI (z := IntKind.i64.wrap (left + 1)) rg rfl rfl rfl rfl rfl rfl ?_
   refine JJ.assign rg rfl rfl rfl ?_
   refine JJ.regionEnd ?_
   have hF : F_sizeX x left = IntKind.i64.wrap (left + 1) := by simp only [F_sizeX, hc1b, xb0, xb1, xb2, xb3, xb4, xb5, xb6, xb7, xb8, xb9, xb10, xb11]
   refine JJ.ret1 rfl Try.func24 rfl rfl (fun h h_ => ⟨(), trivial, (by rw [hF]), trivial⟩)
  ·
   have hc1b := hc1
   refine JJ.skip ?_
   refine JJ.seq ?_
   refine JJ.region rfl fun rg => ?_
   refine JJ.assign rg rfl rfl rfl ?_
   refine JJ.regionEnd ?_
   refine JJ.seq ?_
   refine JJ.seq ?_
   refine JJ.region rfl fun rg => ?_
   refine JJ.assign rg rfl rfl rfl ?_
   refine JJ.regionEnd ?_
   refine JJ.cut (X := Hp × Int) (fun z => [(5, .int .i64 (z.2))]) (fun z => z.1) (fun z => [blk b4 (.cells ([.int .i64 (x.op), .int .i64 (x.n), .string (x.s), .slice (A1) ((x.x).length) (cp2)]).toArray 53)])
    (fun z => Hp.le (I6) z.1 ∧ F_sizeX_l0 left x.x 1 = .inr z.2) (fun hk16 => ?_) ?_
   ·
    refine JJ.block ?_
    refine JJ.induct (X := Nat × Hp × Int) (fun z => [(1, .int .i64 (left)), (2, .pointer (some ⟨b4, 0, none⟩)), (5, .int .i64 (z.2.2)), (6, .int .i64 (((z.1 : Nat) : Int)))]) (fun z => z.2.1) (fun z => [blk b4 (.cells ([.int .i64 (x.op), .int .i64 (x.n), .string (x.s), .slice (A1) ((x.x).length) (cp2)]).toArray 53)])
     (fun z => z.1 ≤ (x.x).length ∧ Hp.le (I6) z.2.1 ∧ F_sizeX_l0 left x.x 1 = F_sizeX_l0 left (List.drop z.1 x.x) z.2.2) (fun z => (x.x).length - z.1)
     (0, I6, 1) ⟨Nat.zero_le _, .refl _, by rw [List.drop_zero]⟩
     (fun h => JJ.keep _ (by repeat (first | exact trivial | refine ⟨rfl, ?_⟩)) h) ?_
    rintro ⟨i9, I11, v5_8⟩ ⟨hi14, hle12, hsp13⟩ ih15
    try dsimp only at hi14 hle12 hsp13 ih15 ⊢
    rcases Nat.lt_or_ge i9 ((x.x).length) with hlt_i9 | hge_i9
    ·
     obtain ⟨d10, hd_d10⟩ : ∃ d10, (x.x)[i9]? = some d10 := ⟨_, List.getElem?_eq_getElem hlt_i9⟩
     have hdr_i9 : List.drop i9 x.x = d10 :: List.drop (i9 + 1) x.x := drop_cons hd_d10
     have hz17 := Ex.szl_mem (List.mem_of_getElem? hd_d10)
     have hy18 := Ex.sz_eq d10
     have hl19 := Ex.szl_len (d10).x
     refine JJ.seq ?_
     refine JJ.seq ?_
     refine JJ.region rfl fun rg => ?_
     refine JJ.move rg rfl rfl rfl ?_
     refine JJ.fieldAddr (a' := ⟨b4, 3, none⟩) fo53_3 rg rfl rfl rfl rfl ?_
     refine JJ.loadL (v := .slice (A1) ((x.x).length) (cp2)) ty33 0 rg rfl rfl rfl rfl rfl ?_
     refine JJ.lenSlice ss33 rg rfl rfl rfl ?_
     refine JJ.bin (v := .bool true) rg rfl rfl rfl rfl (congrArg (fun b => some (Value.bool b)) (decide_eq_true (by omega))) ?_
     refine JJ.regionEnd ?_
     refine JJ.cond (b := true) rfl ?_
     refine JJ.skip ?_
     refine JJ.seq ?_
     refine JJ.block ?_
     refine JJ.seq ?_
     refine JJ.region rfl fun rg => ?_
     refine JJ.move rg rfl rfl rfl ?_
     refine JJ.fieldAddr (a' := ⟨b4, 3, none⟩) fo53_3 rg rfl rfl rfl rfl ?_
     refine JJ.loadL (v := .slice (A1) ((x.x).length) (cp2)) ty33 0 rg rfl rfl rfl rfl rfl ?_
     refine JJ.move rg rfl rfl rfl ?_
     obtain ⟨a20, cs21, hA22, hcap23, -, hre24, hrow25⟩ := RSl.get (hx3.mono (hle7.trans hle12)) hd_d10
     have hlthd_d10 := (List.getElem?_eq_some_iff.1 hd_d10).1
     obtain ⟨A26, cp27, rfl, hx28⟩ := RX.open hre24
     refine JJ.indexAddrA hA22 (a' := a20.add (i9 * 4)) eo33 rg rfl rfl rfl rfl (by omega) (by omega) rfl ?_
     refine JJ.loadI (v := .agg #[.int .i64 (d10.op), .int .i64 (d10.n), .string (d10.s), .slice (A26) ((d10.x).length) (cp27)]) ty53 rg rfl rfl rfl hrow25 rfl ?_
     refine JJ.move rg rfl rfl rfl ?_
     refine JJ.move rg rfl rfl rfl ?_
     refine JJ.binI (z := IntKind.i64.wrap (left - v5_8)) rg rfl rfl rfl rfl rfl rfl ?_
     refine JJ.callp bo24 rg rfl rfl rfl rfl (ih _ _ d10 hre24 (IntKind.i64.wrap (left - v5_8)) (by first | assumption | omega) (by omega)) fun _ I31 hle32 _ => ?_
     refine JJ.binI (z := IntKind.i64.wrap (v5_8 + (F_sizeX d10 (IntKind.i64.wrap (left - v5_8))))) rg rfl rfl rfl rfl rfl rfl ?_
     refine JJ.assign rg rfl rfl rfl ?_
     refine JJ.regionEnd ?_
     refine JJ.seq ?_
     refine JJ.region rfl fun rg => ?_
     refine JJ.move rg rfl rfl rfl ?_
     refine JJ.move rg rfl rfl rfl ?_
     refine JJ.bin rg rfl rfl rfl rfl rfl ?_
     refine JJ.regionEnd ?_
     refine JJ.cond2 rfl (fun hc8 => ?_) (fun hc8 => ?_)
     ·
      have hc8b := hc8
      replace hc8 := of_decide_eq_true hc8
      refine JJ.seq ?_
      refine JJ.region rfl fun rg => ?_
      refine JJ.move rg rfl rfl rfl ?_
      refine JJ.binI (z := IntKind.i64.wrap (left + 1)) rg rfl rfl rfl rfl rfl rfl ?_
      refine JJ.assign rg rfl rfl rfl ?_
      refine JJ.regionEnd ?_
      have hE33 : F_sizeX_l0 left x.x 1 = .inl (IntKind.i64.wrap (left + 1)) := by rw [hsp13, hdr_i9]; simp only [F_sizeX_l0, hc8b, xb0, xb1, xb2, xb3, xb4, xb5, xb6, xb7, xb8, xb9, xb10, xb11]
      have hF : F_sizeX x left = IntKind.i64.wrap (left + 1) := by simp only [F_sizeX, hc1b, hE33, xb0, xb1, xb2, xb3, xb4, xb5, xb6, xb7, xb8, xb9, xb10, xb11]
      refine JJ.ret1 rfl Try.func24 rfl rfl (fun h h_ => ⟨(), trivial, (by rw [hF]), trivial⟩)
     ·
      have hc8b := hc8
      replace hc8 := of_decide_eq_false hc8
      refine JJ.skip ?_
      refine JJ.inBlock ?_
      refine JJ.region rfl fun rg => ?_
      refine JJ.move rg rfl rfl rfl ?_
      refine JJ.binI (z := ((i9 + 1 : Nat) : Int)) rg rfl rfl rfl rfl rfl (wrap_to (by omega) (by omega) (by omega)) ?_
      refine JJ.assign rg rfl rfl rfl ?_
      refine JJ.regionEnd ?_
      have hnx : F_sizeX_l0 left x.x 1 = F_sizeX_l0 left (List.drop (i9 + 1) x.x) (IntKind.i64.wrap (v5_8 + (F_sizeX d10 (IntKind.i64.wrap (left - v5_8))))) := by rw [hsp13, hdr_i9]; simp only [F_sizeX_l0, hc8b, xb0, xb1, xb2, xb3, xb4, xb5, xb6, xb7, xb8, xb9, xb10, xb11]
      refine JJ.keep _ ?_ (ih15 (i9 + 1, I31, IntKind.i64.wrap (v5_8 + (F_sizeX d10 (IntKind.i64.wrap (left - v5_8))))) ⟨hlt_i9, (hle12.trans hle32), hnx⟩ (by dsimp only; omega))
      repeat (first | exact trivial | refine ⟨rfl, ?_⟩)
    ·
     have heq_i9 : i9 = (x.x).length := by omega
     have hdr_i9 : List.drop i9 x.x = [] := by rw [heq_i9]; exact List.drop_length
     refine JJ.seq ?_
     refine JJ.seq ?_
     refine JJ.region rfl fun rg => ?_
     refine JJ.move rg rfl rfl rfl ?_
     refine JJ.fieldAddr (a' := ⟨b4, 3, none⟩) fo53_3 rg rfl rfl rfl rfl ?_
     refine JJ.loadL (v := .slice (A1) ((x.x).length) (cp2)) ty33 0 rg rfl rfl rfl rfl rfl ?_
     refine JJ.lenSlice ss33 rg rfl rfl rfl ?_
     refine JJ.bin (v := .bool false) rg rfl rfl rfl rfl (congrArg (fun b => some (Value.bool b)) (decide_eq_false (by omega))) ?_
     refine JJ.regionEnd ?_
     refine JJ.cond (b := false) rfl ?_
     refine JJ.exit rfl ?_
     have hE : F_sizeX_l0 left x.x 1 = .inr v5_8 := by rw [hsp13, hdr_i9]; simp only [F_sizeX_l0, xb0, xb1, xb2, xb3, xb4, xb5, xb6, xb7, xb8, xb9, xb10, xb11]
     refine JJ.keep _ ?_ (hk16 (I11, v5_8) ⟨hle12, hE⟩)
     repeat (first | exact trivial | refine ⟨rfl, ?_⟩)
   ·
    rintro ⟨I34, v5_8⟩ ⟨hle35, hE36⟩
    try dsimp only at hle35 hE36 ⊢
    refine JJ.seq ?_
    refine JJ.region rfl fun rg => ?_
    refine JJ.move rg rfl rfl rfl ?_
    refine JJ.assign rg rfl rfl rfl ?_
    refine JJ.regionEnd ?_
    have hF : F_sizeX x left = v5_8 := by simp only [F_sizeX, hc1b, hE36, xb0, xb1, xb2, xb3, xb4, xb5, xb6, xb7, xb8, xb9, xb10, xb11]
    refine JJ.ret1 rfl Try.func24 rfl rfl (fun h h_ => ⟨(), trivial, (by rw [hF]), trivial⟩)
theorem sizeX (I : Hp) (cs_x : List Value) (x : Ex) (h_x : RX I cs_x x) (left : Int) (hz : x.sz ≤ 4294967296) : Fn Try.prog 24 #[.agg (cs_x).toArray, .int .i64 (left)] I [] (Ret (X := Unit) (fun x_ I' => True) (fun x_ => .int .i64 (F_sizeX x left)) fun _ => []) := sizeX_rec _ I cs_x x h_x left hz (Nat.lt_succ_self _)
def F_sizeB_l2 (left : Int) : List Ex → Int → Sum (Int) (Int)
  | [], v5_32 => .inr v5_32
  | d34 :: LREST, v5_32 => bif decide ((left : Int) < IntKind.i64.wrap (v5_32 + (F_sizeX d34 (IntKind.i64.wrap (left - v5_32))))) then (.inl (IntKind.i64.wrap (left + 1))) else (F_sizeB_l2 left LREST (IntKind.i64.wrap (v5_32 + (F_sizeX d34 (IntKind.i64.wrap (left - v5_32))))))
mutual
def F_sizeB_l0 (left : Int) : List St → Int → Sum (Int) (Int)
  | [], v5_1 => .inr v5_1
  | d3 :: LREST, v5_1 => bif decide ((left : Int) < IntKind.i64.wrap (v5_1 + 1)) then (.inl (IntKind.i64.wrap (left + 1))) else (bif decide ((300 : Int) < ((d3.s).size : Int)) then (.inl (IntKind.i64.wrap (left + 1))) else ((match F_sizeB_l2 left d3.e (IntKind.i64.wrap (v5_1 + 1)) with | .inl r_ => .inl r_ | .inr v5_32 => bif decide ((left : Int) < IntKind.i64.wrap (v5_32 + (F_sizeB d3.body (IntKind.i64.wrap (left - v5_32))))) then (.inl (IntKind.i64.wrap (left + 1))) else (bif decide ((left : Int) < IntKind.i64.wrap ((IntKind.i64.wrap (v5_32 + (F_sizeB d3.body (IntKind.i64.wrap (left - v5_32))))) + (F_sizeB d3.els (IntKind.i64.wrap (left - (IntKind.i64.wrap (v5_32 + (F_sizeB d3.body (IntKind.i64.wrap (left - v5_32)))))))))) then (.inl (IntKind.i64.wrap (left + 1))) else (F_sizeB_l0 left LREST (IntKind.i64.wrap ((IntKind.i64.wrap (v5_32 + (F_sizeB d3.body (IntKind.i64.wrap (left - v5_32))))) + (F_sizeB d3.els (IntKind.i64.wrap (left - (IntKind.i64.wrap (v5_32 + (F_sizeB d3.body (IntKind.i64.wrap (left - v5_32)))))))))))))))
  termination_by l _ => 2 * St.szl l
  decreasing_by all_goals ((try simp only [Ex.szl, Ex.sz_eq, St.szl, St.sz_eq]); omega)
def F_sizeB (l : List St) (left : Int) : Int :=
  (match F_sizeB_l0 left l 0 with | .inl r_ => r_ | .inr v5_1 => v5_1)
  termination_by 2 * St.szl l + 1
  decreasing_by all_goals ((try simp only [Ex.szl, Ex.sz_eq, St.szl, St.sz_eq]); omega)
end
set_option maxHeartbeats 4000000 in
theorem sizeB_rec : ∀ (N : Nat) (I : Hp) (A_l : Option Addr) (cp_l : Nat) (l : List St) (h_l : RTs I A_l (l).length cp_l l) (n_l : (l).length ≤ 4294967296) (left : Int) (hz : St.szl l ≤ 4294967296) (hN : St.szl l < N), Fn Try.prog 23 #[.slice (A_l) ((l).length) (cp_l), .int .i64 (left)] I [] (Ret (X := Unit) (fun x_ I' => True) (fun x_ => .int .i64 (F_sizeB l left)) fun _ => []) := by
 intro N
 induction N with
 | zero => intro I A_l cp_l l h_l n_l left hz hN; exact absurd hN (by omega)
 | succ N ih =>
 intro I A_l cp_l l h_l n_l left hz hN
 refine Fn.of (args := [_, _]) Try.func23 rfl rfl ?_
 refine JJ.seq ?_
 refine JJ.region rfl fun rg => ?_
 refine JJ.assign rg rfl rfl rfl ?_
 refine JJ.regionEnd ?_
 refine JJ.seq ?_
 refine JJ.region rfl fun rg => ?_
 refine JJ.assign rg rfl rfl rfl ?_
 refine JJ.regionEnd ?_
 refine JJ.seq ?_
 refine JJ.seq ?_
 refine JJ.region rfl fun rg => ?_
 refine JJ.assign rg rfl rfl rfl ?_
 refine JJ.regionEnd ?_
 refine JJ.cut (X := Hp × Int) (fun z => [(5, .int .i64 (z.2))]) (fun z => z.1) (fun z => [])
  (fun z => Hp.le (I) z.1 ∧ F_sizeB_l0 left l 0 = .inr z.2) (fun hk9 => ?_) ?_
 ·
  refine JJ.block ?_
  refine JJ.induct (X := Nat × Hp × Int) (fun z => [(0, .slice (A_l) ((l).length) (cp_l)), (1, .int .i64 (left)), (5, .int .i64 (z.2.2)), (6, .int .i64 (((z.1 : Nat) : Int)))]) (fun z => z.2.1) (fun z => [])
   (fun z => z.1 ≤ (l).length ∧ Hp.le (I) z.2.1 ∧ F_sizeB_l0 left l 0 = F_sizeB_l0 left (List.drop z.1 l) z.2.2) (fun z => (l).length - z.1)
   (0, I, 0) ⟨Nat.zero_le _, .refl _, by rw [List.drop_zero]⟩
   (fun h => JJ.keep _ (by repeat (first | exact trivial | refine ⟨rfl, ?_⟩)) h) ?_
  rintro ⟨i2, I4, v5_1⟩ ⟨hi7, hle5, hsp6⟩ ih8
  try dsimp only at hi7 hle5 hsp6 ih8 ⊢
  rcases Nat.lt_or_ge i2 ((l).length) with hlt_i2 | hge_i2
  ·
   obtain ⟨d3, hd_d3⟩ : ∃ d3, (l)[i2]? = some d3 := ⟨_, List.getElem?_eq_getElem hlt_i2⟩
   have hdr_i2 : List.drop i2 l = d3 :: List.drop (i2 + 1) l := drop_cons hd_d3
   have hz10 := St.szl_mem (List.mem_of_getElem? hd_d3)
   have hy11 := St.sz_eq d3
   have hl12 := Ex.szl_len (d3).e
   have hl13 := St.szl_len (d3).body
   have hl14 := St.szl_len (d3).els
   refine JJ.seq ?_
   refine JJ.seq ?_
   refine JJ.region rfl fun rg => ?_
   refine JJ.move rg rfl rfl rfl ?_
   refine JJ.move rg rfl rfl rfl ?_
   refine JJ.lenSlice ss23 rg rfl rfl rfl ?_
   refine JJ.bin (v := .bool true) rg rfl rfl rfl rfl (congrArg (fun b => some (Value.bool b)) (decide_eq_true (by omega))) ?_
   refine JJ.regionEnd ?_
   refine JJ.cond (b := true) rfl ?_
   refine JJ.skip ?_
   refine JJ.seq ?_
   refine JJ.block ?_
   refine JJ.seq ?_
   refine JJ.region rfl fun rg => ?_
   refine JJ.move rg rfl rfl rfl ?_
   refine JJ.binI (z := IntKind.i64.wrap (v5_1 + 1)) rg rfl rfl rfl rfl rfl rfl ?_
   refine JJ.assign rg rfl rfl rfl ?_
   refine JJ.regionEnd ?_
   refine JJ.seq ?_
   refine JJ.seq ?_
   refine JJ.region rfl fun rg => ?_
   refine JJ.move rg rfl rfl rfl ?_
   refine JJ.move rg rfl rfl rfl ?_
   refine JJ.bin rg rfl rfl rfl rfl rfl ?_
   refine JJ.move rg rfl rfl rfl ?_
   refine JJ.split 19 rfl (fun hg6_4 => ?_) (fun hg6_4 => ?_)
   ·
    have hg6_4b := hg6_4
    replace hg6_4 := of_decide_eq_true hg6_4
    refine JJ.gskip rg rfl rfl ?_
    refine JJ.gskip rg rfl rfl ?_
    refine JJ.gskip rg rfl rfl ?_
    refine JJ.gskip rg rfl rfl ?_
    refine JJ.gskip rg rfl rfl ?_
    refine JJ.gskip rg rfl rfl ?_
    refine JJ.gskip rg rfl rfl ?_
    refine JJ.pick (b := true) rg rfl rfl rfl rfl ?_
    refine JJ.regionEnd ?_
    refine JJ.cond (b := true) rfl ?_
    refine JJ.seq ?_
    refine JJ.region rfl fun rg => ?_
    refine JJ.move rg rfl rfl rfl ?_
    refine JJ.binI (z := IntKind.i64.wrap (left + 1)) rg rfl rfl rfl rfl rfl rfl ?_
    refine JJ.assign rg rfl rfl rfl ?_
    refine JJ.regionEnd ?_
    have hE15 : F_sizeB_l0 left l 0 = .inl (IntKind.i64.wrap (left + 1)) := by rw [hsp6, hdr_i2]; simp only [F_sizeB_l0, hg6_4b, xb0, xb1, xb2, xb3, xb4, xb5, xb6, xb7, xb8, xb9, xb10, xb11]
    have hF : F_sizeB l left = IntKind.i64.wrap (left + 1) := by simp only [F_sizeB, hE15, xb0, xb1, xb2, xb3, xb4, xb5, xb6, xb7, xb8, xb9, xb10, xb11]
    refine JJ.ret1 rfl Try.func23 rfl rfl (fun h h_ => ⟨(), trivial, (by rw [hF]), trivial⟩)
   ·
    have hg6_4b := hg6_4
    replace hg6_4 := of_decide_eq_false hg6_4
    refine JJ.move rg rfl rfl rfl ?_
    refine JJ.move rg rfl rfl rfl ?_
    obtain ⟨a16, cs17, hA18, hcap19, -, hre20, hrow21⟩ := RSl.get (h_l.mono hle5) hd_d3
    have hlthd_d3 := (List.getElem?_eq_some_iff.1 hd_d3).1
    obtain ⟨A22, cp23, A25, cp26, A28, cp29, rfl, hx24, hx27, hx30⟩ := RT.open hre20
    refine JJ.indexAddrA hA18 (a' := a16.add (i2 * 7)) eo23 rg rfl rfl rfl rfl (by omega) (by omega) rfl ?_
    refine JJ.fieldAddr (a' := (a16.add (i2 * 7)).add 1) fo35_1 rg rfl rfl rfl rfl ?_
    refine JJ.loadI (v := .string (d3.s)) ty9 rg rfl rfl rfl (Row.drop hrow21 1) rfl ?_
    refine JJ.lenString st9 rg rfl rfl rfl ?_
    refine JJ.bin rg rfl rfl rfl rfl rfl ?_
    refine JJ.pick (b := false) rg rfl rfl rfl rfl ?_
    refine JJ.regionEnd ?_
    refine JJ.cond2 rfl (fun hc6 => ?_) (fun hc6 => ?_)
    ·
     have hc6b := hc6
     replace hc6 := of_decide_eq_true hc6
     refine JJ.seq ?_
     refine JJ.region rfl fun rg => ?_
     refine JJ.move rg rfl rfl rfl ?_
     refine JJ.binI (z := IntKind.i64.wrap (left + 1)) rg rfl rfl rfl rfl rfl rfl ?_
     refine JJ.assign rg rfl rfl rfl ?_
     refine JJ.regionEnd ?_
     have hE31 : F_sizeB_l0 left l 0 = .inl (IntKind.i64.wrap (left + 1)) := by rw [hsp6, hdr_i2]; simp only [F_sizeB_l0, hg6_4b, hc6b, xb0, xb1, xb2, xb3, xb4, xb5, xb6, xb7, xb8, xb9, xb10, xb11]
     have hF : F_sizeB l left = IntKind.i64.wrap (left + 1) := by simp only [F_sizeB, hE31, xb0, xb1, xb2, xb3, xb4, xb5, xb6, xb7, xb8, xb9, xb10, xb11]
     refine JJ.ret1 rfl Try.func23 rfl rfl (fun h h_ => ⟨(), trivial, (by rw [hF]), trivial⟩)
    ·
     have hc6b := hc6
     replace hc6 := of_decide_eq_false hc6
     refine JJ.skip ?_
     refine JJ.seq ?_
     refine JJ.seq ?_
     refine JJ.region rfl fun rg => ?_
     refine JJ.assign rg rfl rfl rfl ?_
     refine JJ.regionEnd ?_
     refine JJ.cut (X := Hp × Int) (fun z => [(0, .slice (A_l) ((l).length) (cp_l)), (1, .int .i64 (left)), (5, .int .i64 (z.2)), (6, .int .i64 (((i2 : Nat) : Int))), (20, .slice (A_l) ((l).length) (cp_l)), (21, .int .i64 (((i2 : Nat) : Int))), (22, .pointer (some (a16.add (i2 * 7)))), (23, .pointer (some ((a16.add (i2 * 7)).add 1))), (24, .string (d3.s)), (25, .int .i64 (((d3.s).size : Int))), (26, .bool (decide ((300 : Int) < ((d3.s).size : Int))))]) (fun z => z.1) (fun z => [])
      (fun z => Hp.le (I4) z.1 ∧ F_sizeB_l2 left d3.e (IntKind.i64.wrap (v5_1 + 1)) = .inr z.2) (fun hk40 => ?_) ?_
     ·
      refine JJ.block ?_
      refine JJ.induct (X := Nat × Hp × Int) (fun z => [(0, .slice (A_l) ((l).length) (cp_l)), (1, .int .i64 (left)), (5, .int .i64 (z.2.2)), (6, .int .i64 (((i2 : Nat) : Int))), (7, .int .i64 (((z.1 : Nat) : Int))), (20, .slice (A_l) ((l).length) (cp_l)), (21, .int .i64 (((i2 : Nat) : Int))), (22, .pointer (some (a16.add (i2 * 7)))), (23, .pointer (some ((a16.add (i2 * 7)).add 1))), (24, .string (d3.s)), (25, .int .i64 (((d3.s).size : Int))), (26, .bool (decide ((300 : Int) < ((d3.s).size : Int))))]) (fun z => z.2.1) (fun z => [])
       (fun z => z.1 ≤ (d3.e).length ∧ Hp.le (I4) z.2.1 ∧ F_sizeB_l2 left d3.e (IntKind.i64.wrap (v5_1 + 1)) = F_sizeB_l2 left (List.drop z.1 d3.e) z.2.2) (fun z => (d3.e).length - z.1)
       (0, I4, IntKind.i64.wrap (v5_1 + 1)) ⟨Nat.zero_le _, .refl _, by rw [List.drop_zero]⟩
       (fun h => JJ.keep _ (by repeat (first | exact trivial | refine ⟨rfl, ?_⟩)) h) ?_
      rintro ⟨i33, I35, v5_32⟩ ⟨hi38, hle36, hsp37⟩ ih39
      try dsimp only at hi38 hle36 hsp37 ih39 ⊢
      rcases Nat.lt_or_ge i33 ((d3.e).length) with hlt_i33 | hge_i33
      ·
       obtain ⟨d34, hd_d34⟩ : ∃ d34, (d3.e)[i33]? = some d34 := ⟨_, List.getElem?_eq_getElem hlt_i33⟩
       have hdr_i33 : List.drop i33 d3.e = d34 :: List.drop (i33 + 1) d3.e := drop_cons hd_d34
       have hz41 := Ex.szl_mem (List.mem_of_getElem? hd_d34)
       have hy42 := Ex.sz_eq d34
       have hl43 := Ex.szl_len (d34).x
       refine JJ.seq ?_
       refine JJ.seq ?_
       refine JJ.region rfl fun rg => ?_
       refine JJ.move rg rfl rfl rfl ?_
       refine JJ.move rg rfl rfl rfl ?_
       refine JJ.move rg rfl rfl rfl ?_
       refine JJ.indexAddrA hA18 (a' := a16.add (i2 * 7)) eo23 rg rfl rfl rfl rfl (by omega) (by omega) rfl ?_
       refine JJ.fieldAddr (a' := (a16.add (i2 * 7)).add 3) fo35_3 rg rfl rfl rfl rfl ?_
       refine JJ.loadI (v := .slice (A22) ((d3.e).length) (cp23)) ty33 rg rfl rfl rfl (Row.drop (hrow21.mono hle36) 3) rfl ?_
       refine JJ.lenSlice ss33 rg rfl rfl rfl ?_
       refine JJ.bin (v := .bool true) rg rfl rfl rfl rfl (congrArg (fun b => some (Value.bool b)) (decide_eq_true (by omega))) ?_
       refine JJ.regionEnd ?_
       refine JJ.cond (b := true) rfl ?_
       refine JJ.skip ?_
       refine JJ.seq ?_
       refine JJ.block ?_
       refine JJ.seq ?_
       refine JJ.region rfl fun rg => ?_
       refine JJ.move rg rfl rfl rfl ?_
       refine JJ.move rg rfl rfl rfl ?_
       refine JJ.move rg rfl rfl rfl ?_
       refine JJ.indexAddrA hA18 (a' := a16.add (i2 * 7)) eo23 rg rfl rfl rfl rfl (by omega) (by omega) rfl ?_
       refine JJ.fieldAddr (a' := (a16.add (i2 * 7)).add 3) fo35_3 rg rfl rfl rfl rfl ?_
       refine JJ.loadI (v := .slice (A22) ((d3.e).length) (cp23)) ty33 rg rfl rfl rfl (Row.drop (hrow21.mono hle36) 3) rfl ?_
       refine JJ.move rg rfl rfl rfl ?_
       obtain ⟨a44, cs45, hA46, hcap47, -, hre48, hrow49⟩ := RSl.get (hx24.mono hle36) hd_d34
       have hlthd_d34 := (List.getElem?_eq_some_iff.1 hd_d34).1
       obtain ⟨A50, cp51, rfl, hx52⟩ := RX.open hre48
       refine JJ.indexAddrA hA46 (a' := a44.add (i33 * 4)) eo33 rg rfl rfl rfl rfl (by omega) (by omega) rfl ?_
       refine JJ.loadI (v := .agg #[.int .i64 (d34.op), .int .i64 (d34.n), .string (d34.s), .slice (A50) ((d34.x).length) (cp51)]) ty53 rg rfl rfl rfl hrow49 rfl ?_
       refine JJ.move rg rfl rfl rfl ?_
       refine JJ.move rg rfl rfl rfl ?_
       refine JJ.binI (z := IntKind.i64.wrap (left - v5_32)) rg rfl rfl rfl rfl rfl rfl ?_
       refine JJ.callp bo24 rg rfl rfl rfl rfl (sizeX _ _ d34 hre48 (IntKind.i64.wrap (left - v5_32)) (by first | assumption | omega)) fun _ I55 hle56 _ => ?_
       refine JJ.binI (z := IntKind.i64.wrap (v5_32 + (F_sizeX d34 (IntKind.i64.wrap (left - v5_32))))) rg rfl rfl rfl rfl rfl rfl ?_
       refine JJ.assign rg rfl rfl rfl ?_
       refine JJ.regionEnd ?_
       refine JJ.seq ?_
       refine JJ.region rfl fun rg => ?_
       refine JJ.move rg rfl rfl rfl ?_
       refine JJ.move rg rfl rfl rfl ?_
       refine JJ.bin rg rfl rfl rfl rfl rfl ?_
       refine JJ.regionEnd ?_
       refine JJ.cond2 rfl (fun hc12 => ?_) (fun hc12 => ?_)
       ·
        have hc12b := hc12
        replace hc12 := of_decide_eq_true hc12
        refine JJ.seq ?_
        refine JJ.region rfl fun rg => ?_
        refine JJ.move rg rfl rfl rfl ?_
        refine JJ.binI (z := IntKind.i64.wrap (left + 1)) rg rfl rfl rfl rfl rfl rfl ?_
        refine JJ.assign rg rfl rfl rfl ?_
        refine JJ.regionEnd ?_
        have hE57 : F_sizeB_l2 left d3.e (IntKind.i64.wrap (v5_1 + 1)) = .inl (IntKind.i64.wrap (left + 1)) := by rw [hsp37, hdr_i33]; simp only [F_sizeB_l2, hc12b, xb0, xb1, xb2, xb3, xb4, xb5, xb6, xb7, xb8, xb9, xb10, xb11]
        have hE58 : F_sizeB_l0 left l 0 = .inl (IntKind.i64.wrap (left + 1)) := by rw [hsp6, hdr_i2]; simp only [F_sizeB_l0, hg6_4b, hc6b, hc12b, hE57, xb0, xb1, xb2, xb3, xb4, xb5, xb6, xb7, xb8, xb9, xb10, xb11]
        have hF : F_sizeB l left = IntKind.i64.wrap (left + 1) := by simp only [F_sizeB, hE57, hE58, xb0, xb1, xb2, xb3, xb4, xb5, xb6, xb7, xb8, xb9, xb10, xb11]
        refine JJ.ret1 rfl Try.func23 rfl rfl (fun h h_ => ⟨(), trivial, (by rw [hF]), trivial⟩)
       ·
        have hc12b := hc12
        replace hc12 := of_decide_eq_false hc12
        refine JJ.skip ?_
        refine JJ.inBlock ?_
        refine JJ.region rfl fun rg => ?_
        refine JJ.move rg rfl rfl rfl ?_
        refine JJ.binI (z := ((i33 + 1 : Nat) : Int)) rg rfl rfl rfl rfl rfl (wrap_to (by omega) (by omega) (by omega)) ?_
        refine JJ.assign rg rfl rfl rfl ?_
        refine JJ.regionEnd ?_
        have hnx : F_sizeB_l2 left d3.e (IntKind.i64.wrap (v5_1 + 1)) = F_sizeB_l2 left (List.drop (i33 + 1) d3.e) (IntKind.i64.wrap (v5_32 + (F_sizeX d34 (IntKind.i64.wrap (left - v5_32))))) := by rw [hsp37, hdr_i33]; simp only [F_sizeB_l2, hc12b, xb0, xb1, xb2, xb3, xb4, xb5, xb6, xb7, xb8, xb9, xb10, xb11]
        refine JJ.keep _ ?_ (ih39 (i33 + 1, I55, IntKind.i64.wrap (v5_32 + (F_sizeX d34 (IntKind.i64.wrap (left - v5_32))))) ⟨hlt_i33, (hle36.trans hle56), hnx⟩ (by dsimp only; omega))
        repeat (first | exact trivial | refine ⟨rfl, ?_⟩)
      ·
       have heq_i33 : i33 = (d3.e).length := by omega
       have hdr_i33 : List.drop i33 d3.e = [] := by rw [heq_i33]; exact List.drop_length
       refine JJ.seq ?_
       refine JJ.seq ?_
       refine JJ.region rfl fun rg => ?_
       refine JJ.move rg rfl rfl rfl ?_
       refine JJ.move rg rfl rfl rfl ?_
       refine JJ.move rg rfl rfl rfl ?_
       refine JJ.indexAddrA hA18 (a' := a16.add (i2 * 7)) eo23 rg rfl rfl rfl rfl (by omega) (by omega) rfl ?_
       refine JJ.fieldAddr (a' := (a16.add (i2 * 7)).add 3) fo35_3 rg rfl rfl rfl rfl ?_
       refine JJ.loadI (v := .slice (A22) ((d3.e).length) (cp23)) ty33 rg rfl rfl rfl (Row.drop (hrow21.mono hle36) 3) rfl ?_
       refine JJ.lenSlice ss33 rg rfl rfl rfl ?_
       refine JJ.bin (v := .bool false) rg rfl rfl rfl rfl (congrArg (fun b => some (Value.bool b)) (decide_eq_false (by omega))) ?_
       refine JJ.regionEnd ?_
       refine JJ.cond (b := false) rfl ?_
       refine JJ.exit rfl ?_
       have hE : F_sizeB_l2 left d3.e (IntKind.i64.wrap (v5_1 + 1)) = .inr v5_32 := by rw [hsp37, hdr_i33]; simp only [F_sizeB_l2, xb0, xb1, xb2, xb3, xb4, xb5, xb6, xb7, xb8, xb9, xb10, xb11]
       refine JJ.keep _ ?_ (hk40 (I35, v5_32) ⟨hle36, hE⟩)
       repeat (first | exact trivial | refine ⟨rfl, ?_⟩)
     ·
      rintro ⟨I59, v5_32⟩ ⟨hle60, hE61⟩
      try dsimp only at hle60 hE61 ⊢
      refine JJ.seq ?_
      refine JJ.region rfl fun rg => ?_
      refine JJ.move rg rfl rfl rfl ?_
      refine JJ.move rg rfl rfl rfl ?_
      refine JJ.move rg rfl rfl rfl ?_
      refine JJ.indexAddrA hA18 (a' := a16.add (i2 * 7)) eo23 rg rfl rfl rfl rfl (by omega) (by omega) rfl ?_
      refine JJ.fieldAddr (a' := (a16.add (i2 * 7)).add 4) fo35_4 rg rfl rfl rfl rfl ?_
      refine JJ.loadI (v := .slice (A25) ((d3.body).length) (cp26)) ty23 rg rfl rfl rfl (Row.drop (hrow21.mono hle60) 4) rfl ?_
      refine JJ.move rg rfl rfl rfl ?_
      refine JJ.move rg rfl rfl rfl ?_
      refine JJ.binI (z := IntKind.i64.wrap (left - v5_32)) rg rfl rfl rfl rfl rfl rfl ?_
      refine JJ.callp bo23 rg rfl rfl rfl rfl (ih _ _ _ d3.body (hx27.mono hle60) (by first | assumption | omega | (simp; done)) (IntKind.i64.wrap (left - v5_32)) (by first | assumption | omega) (by omega)) fun _ I64 hle65 _ => ?_
      refine JJ.binI (z := IntKind.i64.wrap (v5_32 + (F_sizeB d3.body (IntKind.i64.wrap (left - v5_32))))) rg rfl rfl rfl rfl rfl rfl ?_
      refine JJ.assign rg rfl rfl rfl ?_
      refine JJ.regionEnd ?_
      refine JJ.seq ?_
      refine JJ.seq ?_
      refine JJ.region rfl fun rg => ?_
      refine JJ.move rg rfl rfl rfl ?_
      refine JJ.move rg rfl rfl rfl ?_
      refine JJ.bin rg rfl rfl rfl rfl rfl ?_
      refine JJ.regionEnd ?_
      refine JJ.cond2 rfl (fun hc15 => ?_) (fun hc15 => ?_)
      ·
       have hc15b := hc15
       replace hc15 := of_decide_eq_true hc15
       refine JJ.seq ?_
       refine JJ.region rfl fun rg => ?_
       refine JJ.move rg rfl rfl rfl ?_
       refine JJ.binI (z := IntKind.i64.wrap (left + 1)) rg rfl rfl rfl rfl rfl rfl ?_
       refine JJ.assign rg rfl rfl rfl ?_
       refine JJ.regionEnd ?_
       have hE66 : F_sizeB_l0 left l 0 = .inl (IntKind.i64.wrap (left + 1)) := by rw [hsp6, hdr_i2]; simp only [F_sizeB_l0, hg6_4b, hc6b, hE61, hc15b, xb0, xb1, xb2, xb3, xb4, xb5, xb6, xb7, xb8, xb9, xb10, xb11]
       have hF : F_sizeB l left = IntKind.i64.wrap (left + 1) := by simp only [F_sizeB, hE66, xb0, xb1, xb2, xb3, xb4, xb5, xb6, xb7, xb8, xb9, xb10, xb11]
       refine JJ.ret1 rfl Try.func23 rfl rfl (fun h h_ => ⟨(), trivial, (by rw [hF]), trivial⟩)
      ·
       have hc15b := hc15
       replace hc15 := of_decide_eq_false hc15
       refine JJ.skip ?_
       refine JJ.seq ?_
       refine JJ.region rfl fun rg => ?_
       refine JJ.move rg rfl rfl rfl ?_
       refine JJ.move rg rfl rfl rfl ?_
       refine JJ.move rg rfl rfl rfl ?_
       refine JJ.indexAddrA hA18 (a' := a16.add (i2 * 7)) eo23 rg rfl rfl rfl rfl (by omega) (by omega) rfl ?_
       refine JJ.fieldAddr (a' := (a16.add (i2 * 7)).add 5) fo35_5 rg rfl rfl rfl rfl ?_
       refine JJ.loadI (v := .slice (A28) ((d3.els).length) (cp29)) ty23 rg rfl rfl rfl (Row.drop (hrow21.mono (hle60.trans hle65)) 5) rfl ?_
       refine JJ.move rg rfl rfl rfl ?_
       refine JJ.move rg rfl rfl rfl ?_
       refine JJ.binI (z := IntKind.i64.wrap (left - (IntKind.i64.wrap (v5_32 + (F_sizeB d3.body (IntKind.i64.wrap (left - v5_32))))))) rg rfl rfl rfl rfl rfl rfl ?_
       refine JJ.callp bo23 rg rfl rfl rfl rfl (ih _ _ _ d3.els (hx30.mono (hle60.trans hle65)) (by first | assumption | omega | (simp; done)) (IntKind.i64.wrap (left - (IntKind.i64.wrap (v5_32 + (F_sizeB d3.body (IntKind.i64.wrap (left - v5_32))))))) (by first | assumption | omega) (by omega)) fun _ I69 hle70 _ => ?_
       refine JJ.binI (z := IntKind.i64.wrap ((IntKind.i64.wrap (v5_32 + (F_sizeB d3.body (IntKind.i64.wrap (left - v5_32))))) + (F_sizeB d3.els (IntKind.i64.wrap (left - (IntKind.i64.wrap (v5_32 + (F_sizeB d3.body (IntKind.i64.wrap (left - v5_32)))))))))) rg rfl rfl rfl rfl rfl rfl ?_
       refine JJ.assign rg rfl rfl rfl ?_
       refine JJ.regionEnd ?_
       refine JJ.seq ?_
       refine JJ.region rfl fun rg => ?_
       refine JJ.move rg rfl rfl rfl ?_
       refine JJ.move rg rfl rfl rfl ?_
       refine JJ.bin rg rfl rfl rfl rfl rfl ?_
       refine JJ.regionEnd ?_
       refine JJ.cond2 rfl (fun hc18 => ?_) (fun hc18 => ?_)
       ·
        have hc18b := hc18
        replace hc18 := of_decide_eq_true hc18
        refine JJ.seq ?_
        refine JJ.region rfl fun rg => ?_
        refine JJ.move rg rfl rfl rfl ?_
        refine JJ.binI (z := IntKind.i64.wrap (left + 1)) rg rfl rfl rfl rfl rfl rfl ?_
        refine JJ.assign rg rfl rfl rfl ?_
        refine JJ.regionEnd ?_
        have hE71 : F_sizeB_l0 left l 0 = .inl (IntKind.i64.wrap (left + 1)) := by rw [hsp6, hdr_i2]; simp only [F_sizeB_l0, hg6_4b, hc6b, hE61, hc15b, hc18b, xb0, xb1, xb2, xb3, xb4, xb5, xb6, xb7, xb8, xb9, xb10, xb11]
        have hF : F_sizeB l left = IntKind.i64.wrap (left + 1) := by simp only [F_sizeB, hE71, xb0, xb1, xb2, xb3, xb4, xb5, xb6, xb7, xb8, xb9, xb10, xb11]
        refine JJ.ret1 rfl Try.func23 rfl rfl (fun h h_ => ⟨(), trivial, (by rw [hF]), trivial⟩)
       ·
        have hc18b := hc18
        replace hc18 := of_decide_eq_false hc18
        refine JJ.skip ?_
        refine JJ.inBlock ?_
        refine JJ.region rfl fun rg => ?_
        refine JJ.move rg rfl rfl rfl ?_
        refine JJ.binI (z := ((i2 + 1 : Nat) : Int)) rg rfl rfl rfl rfl rfl (wrap_to (by omega) (by omega) (by omega)) ?_
        refine JJ.assign rg rfl rfl rfl ?_
        refine JJ.regionEnd ?_
        have hnx : F_sizeB_l0 left l 0 = F_sizeB_l0 left (List.drop (i2 + 1) l) (IntKind.i64.wrap ((IntKind.i64.wrap (v5_32 + (F_sizeB d3.body (IntKind.i64.wrap (left - v5_32))))) + (F_sizeB d3.els (IntKind.i64.wrap (left - (IntKind.i64.wrap (v5_32 + (F_sizeB d3.body (IntKind.i64.wrap (left - v5_32)))))))))) := by rw [hsp6, hdr_i2]; simp only [F_sizeB_l0, hg6_4b, hc6b, hE61, hc15b, hc18b, xb0, xb1, xb2, xb3, xb4, xb5, xb6, xb7, xb8, xb9, xb10, xb11]
        refine JJ.keep _ ?_ (ih8 (i2 + 1, I69, IntKind.i64.wrap ((IntKind.i64.wrap (v5_32 + (F_sizeB d3.body (IntKind.i64.wrap (left - v5_32))))) + (F_sizeB d3.els (IntKind.i64.wrap (left - (IntKind.i64.wrap (v5_32 + (F_sizeB d3.body (IntKind.i64.wrap (left - v5_32)))))))))) ⟨hlt_i2, (hle5.trans (hle60.trans (hle65.trans hle70))), hnx⟩ (by dsimp only; omega))
        repeat (first | exact trivial | refine ⟨rfl, ?_⟩)
  ·
   have heq_i2 : i2 = (l).length := by omega
   have hdr_i2 : List.drop i2 l = [] := by rw [heq_i2]; exact List.drop_length
   refine JJ.seq ?_
   refine JJ.seq ?_
   refine JJ.region rfl fun rg => ?_
   refine JJ.move rg rfl rfl rfl ?_
   refine JJ.move rg rfl rfl rfl ?_
   refine JJ.lenSlice ss23 rg rfl rfl rfl ?_
   refine JJ.bin (v := .bool false) rg rfl rfl rfl rfl (congrArg (fun b => some (Value.bool b)) (decide_eq_false (by omega))) ?_
   refine JJ.regionEnd ?_
   refine JJ.cond (b := false) rfl ?_
   refine JJ.exit rfl ?_
   have hE : F_sizeB_l0 left l 0 = .inr v5_1 := by rw [hsp6, hdr_i2]; simp only [F_sizeB_l0, xb0, xb1, xb2, xb3, xb4, xb5, xb6, xb7, xb8, xb9, xb10, xb11]
   refine JJ.keep _ ?_ (hk9 (I4, v5_1) ⟨hle5, hE⟩)
   repeat (first | exact trivial | refine ⟨rfl, ?_⟩)
 ·
  rintro ⟨I72, v5_1⟩ ⟨hle73, hE74⟩
  try dsimp only at hle73 hE74 ⊢
  refine JJ.seq ?_
  refine JJ.region rfl fun rg => ?_
  refine JJ.move rg rfl rfl rfl ?_
  refine JJ.assign rg rfl rfl rfl ?_
  refine JJ.regionEnd ?_
  have hF : F_sizeB l left = v5_1 := by simp only [F_sizeB, hE74, xb0, xb1, xb2, xb3, xb4, xb5, xb6, xb7, xb8, xb9, xb10, xb11]
  refine JJ.ret1 rfl Try.func23 rfl rfl (fun h h_ => ⟨(), trivial, (by rw [hF]), trivial⟩)
theorem sizeB (I : Hp) (A_l : Option Addr) (cp_l : Nat) (l : List St) (h_l : RTs I A_l (l).length cp_l l) (n_l : (l).length ≤ 4294967296) (left : Int) (hz : St.szl l ≤ 4294967296) : Fn Try.prog 23 #[.slice (A_l) ((l).length) (cp_l), .int .i64 (left)] I [] (Ret (X := Unit) (fun x_ I' => True) (fun x_ => .int .i64 (F_sizeB l left)) fun _ => []) := sizeB_rec _ I A_l cp_l l h_l n_l left hz (Nat.lt_succ_self _)
def F_size_l0 (left : Int) : List Pc → Int → Sum (Int) (Int)
  | [], v5_17 => .inr v5_17
  | d19 :: LREST, v5_17 => bif decide ((300 : Int) < ((d19.name).size : Int)) then (.inl (IntKind.i64.wrap ((min left 1000) + 1))) else (bif decide ((min left 1000 : Int) < IntKind.i64.wrap (v5_17 + (F_sizeB d19.body (IntKind.i64.wrap ((min left 1000) - v5_17))))) then (.inl (IntKind.i64.wrap ((min left 1000) + 1))) else (F_size_l0 left LREST (IntKind.i64.wrap (v5_17 + (F_sizeB d19.body (IntKind.i64.wrap ((min left 1000) - v5_17)))))))
def F_size_l2 (left : Int) : List Oc → Int → Sum (Int) (Int)
  | [], v5_58 => .inr v5_58
  | d60 :: LREST, v5_58 => bif decide ((v5_58 : Int) ≤ min left 1000) then (bif decide ((300 : Int) < ((d60.name).size : Int)) then (.inl (IntKind.i64.wrap ((min left 1000) + 1))) else (F_size_l2 left LREST (IntKind.i64.wrap (v5_58 + (F_sizeX d60.e (IntKind.i64.wrap ((min left 1000) - v5_58))))))) else (.inr v5_58)
def F_size (p : Pg) (left : Int) : Int :=
  bif ((decide ((min left 1000 : Int) < (((p.procs).length : Nat) : Int))) || (decide ((min left 1000 : Int) < (((p.oracles).length : Nat) : Int)))) then (IntKind.i64.wrap ((min left 1000) + 1)) else ((match F_size_l0 left p.procs ((((p.procs).length : Nat) : Int) + (((p.oracles).length : Nat) : Int)) with | .inl r_ => r_ | .inr v5_17 => (match F_size_l2 left p.oracles ((bif decide ((IntKind.i64.wrap (v5_17 + (F_sizeB p.main (IntKind.i64.wrap ((min left 1000) - v5_17)))) : Int) ≤ min left 1000) then IntKind.i64.wrap ((IntKind.i64.wrap (v5_17 + (F_sizeB p.main (IntKind.i64.wrap ((min left 1000) - v5_17))))) + (F_sizeB p.recover (IntKind.i64.wrap ((min left 1000) - (IntKind.i64.wrap (v5_17 + (F_sizeB p.main (IntKind.i64.wrap ((min left 1000) - v5_17))))))))) else IntKind.i64.wrap (v5_17 + (F_sizeB p.main (IntKind.i64.wrap ((min left 1000) - v5_17)))))) with | .inl r_ => r_ | .inr v5_58 => v5_58)))
set_option maxHeartbeats 4000000 in
theorem size (I : Hp) (cs_p : List Value) (p : Pg) (h_p : RP I cs_p p) (left : Int) (hz : p.sz ≤ 4294967296) : Fn Try.prog 11 #[.agg (cs_p).toArray, .int .i64 (left)] I [] (Ret (X := Unit) (fun x_ I' => True) (fun x_ => .int .i64 (F_size p left)) fun _ => []) := by
 have hy_p : p.sz = Pc.szl p.procs + St.szl p.main + St.szl p.recover + Oc.szl p.oracles := rfl
 have hl1_p := Pc.szl_len p.procs
 have hl2_p := Oc.szl_len p.oracles
 have hl3_p := St.szl_len p.main
 have hl4_p := St.szl_len p.recover
 obtain ⟨A1, cp2, A4, cp5, A7, cp8, A10, cp11, rfl, hx3, hx6, hx9, hx12⟩ := RP.open h_p
 refine Fn.of (args := [_, _]) Try.func11 rfl rfl ?_
 refine JJ.seq ?_
 refine JJ.region rfl fun rg => ?_
 refine JJ.box (cs := [.slice (A1) ((p.procs).length) (cp2), .slice (A4) ((p.main).length) (cp5), .slice (A7) ((p.recover).length) (cp8), .slice (A10) ((p.oracles).length) (cp11)]) rg rfl rfl rfl rfl fun b13 => ?_
 refine JJ.assign rg rfl rfl rfl ?_
 refine JJ.regionEnd ?_
 refine JJ.seq ?_
 refine JJ.region rfl fun rg => ?_
 refine JJ.move rg rfl rfl rfl ?_
 refine JJ.minInt rg rfl rfl rfl rfl ?_
 refine JJ.assign rg rfl rfl rfl ?_
 refine JJ.regionEnd ?_
 refine JJ.seq ?_
 refine JJ.seq ?_
 refine JJ.cut (X := Hp) (fun _ => [(21, .bool (((decide ((min left 1000 : Int) < (((p.procs).length : Nat) : Int))) || (decide ((min left 1000 : Int) < (((p.oracles).length : Nat) : Int)))))), (1, .int .i64 (min left 1000)), (2, .pointer (some ⟨b13, 0, none⟩))]) (fun x => x) (fun _ => [blk b13 (.cells ([.slice (A1) ((p.procs).length) (cp2), .slice (A4) ((p.main).length) (cp5), .slice (A7) ((p.recover).length) (cp8), .slice (A10) ((p.oracles).length) (cp11)]).toArray 26)]) (fun x => Hp.le (I) x) (fun hk14 => ?_) ?_
 ·
  refine JJ.region rfl fun rg => ?_
  refine JJ.fieldAddr (a' := ⟨b13, 0, none⟩) fo26_0 rg rfl rfl rfl rfl ?_
  refine JJ.loadL (v := .slice (A1) ((p.procs).length) (cp2)) ty22 0 rg rfl rfl rfl rfl rfl ?_
  refine JJ.lenSlice ss22 rg rfl rfl rfl ?_
  refine JJ.move rg rfl rfl rfl ?_
  refine JJ.bin rg rfl rfl rfl rfl rfl ?_
  refine JJ.move rg rfl rfl rfl ?_
  refine JJ.split 15 rfl (fun hg2_6 => ?_) (fun hg2_6 => ?_)
  ·
   have hg2_6b := hg2_6
   replace hg2_6 := of_decide_eq_true hg2_6
   refine JJ.gskip rg rfl rfl ?_
   refine JJ.gskip rg rfl rfl ?_
   refine JJ.gskip rg rfl rfl ?_
   refine JJ.gskip rg rfl rfl ?_
   refine JJ.gskip rg rfl rfl ?_
   refine JJ.pick (b := true) rg rfl rfl rfl rfl ?_
   refine JJ.regionEnd ?_
   refine JJ.keep _ ?_ (hk14 _ (.refl _))
   exact ⟨congrArg (fun b => some (Value.bool b)) (by simp only [hg2_6b, xb0, xb1, xb2, xb3, xb4, xb5, xb6, xb7, xb8, xb9, xb10, xb11]), rfl, rfl, trivial⟩
  ·
   have hg2_6b := hg2_6
   replace hg2_6 := of_decide_eq_false hg2_6
   refine JJ.fieldAddr (a' := ⟨b13, 3, none⟩) fo26_3 rg rfl rfl rfl rfl ?_
   refine JJ.loadL (v := .slice (A10) ((p.oracles).length) (cp11)) ty24 0 rg rfl rfl rfl rfl rfl ?_
   refine JJ.lenSlice ss24 rg rfl rfl rfl ?_
   refine JJ.move rg rfl rfl rfl ?_
   refine JJ.bin rg rfl rfl rfl rfl rfl ?_
   refine JJ.pick (b := false) rg rfl rfl rfl rfl ?_
   refine JJ.regionEnd ?_
   refine JJ.keep _ ?_ (hk14 _ (.refl _))
   exact ⟨congrArg (fun b => some (Value.bool b)) (by simp only [hg2_6b, xb0, xb1, xb2, xb3, xb4, xb5, xb6, xb7, xb8, xb9, xb10, xb11]), rfl, rfl, trivial⟩
 ·
  intro I15 hle16
  refine JJ.cond2 rfl (fun hc2 => ?_) (fun hc2 => ?_)
  ·
   have hc2b := hc2
   refine JJ.seq ?_
   refine JJ.region rfl fun rg => ?_
   refine JJ.move rg rfl rfl rfl ?_
   refine JJ.binI (z := IntKind.i64.wrap ((min left 1000) + 1)) rg rfl rfl rfl rfl rfl rfl ?_
   refine JJ.assign rg rfl rfl rfl ?_
   refine JJ.regionEnd ?_
   have hF : F_size p left = IntKind.i64.wrap ((min left 1000) + 1) := by simp only [F_size, hc2b, xb0, xb1, xb2, xb3, xb4, xb5, xb6, xb7, xb8, xb9, xb10, xb11]
   refine JJ.ret1 rfl Try.func11 rfl rfl (fun h h_ => ⟨(), trivial, (by rw [hF]), trivial⟩)
  ·
   have hc2b := hc2
   refine JJ.skip ?_
   refine JJ.seq ?_
   refine JJ.region rfl fun rg => ?_
   refine JJ.fieldAddr (a' := ⟨b13, 0, none⟩) fo26_0 rg rfl rfl rfl rfl ?_
   refine JJ.loadL (v := .slice (A1) ((p.procs).length) (cp2)) ty22 0 rg rfl rfl rfl rfl rfl ?_
   refine JJ.lenSlice ss22 rg rfl rfl rfl ?_
   refine JJ.fieldAddr (a' := ⟨b13, 3, none⟩) fo26_3 rg rfl rfl rfl rfl ?_
   refine JJ.loadL (v := .slice (A10) ((p.oracles).length) (cp11)) ty24 0 rg rfl rfl rfl rfl rfl ?_
   refine JJ.lenSlice ss24 rg rfl rfl rfl ?_
   refine JJ.binI (z := (((p.procs).length : Nat) : Int) + (((p.oracles).length : Nat) : Int)) rg rfl rfl rfl rfl rfl (wrap_to (by omega) (by omega) (by omega)) ?_
   refine JJ.assign rg rfl rfl rfl ?_
   refine JJ.regionEnd ?_
   refine JJ.seq ?_
   refine JJ.seq ?_
   refine JJ.region rfl fun rg => ?_
   refine JJ.assign rg rfl rfl rfl ?_
   refine JJ.regionEnd ?_
   refine JJ.cut (X := Hp × Int) (fun z => [(1, .int .i64 (min left 1000)), (2, .pointer (some ⟨b13, 0, none⟩)), (5, .int .i64 (z.2))]) (fun z => z.1) (fun z => [blk b13 (.cells ([.slice (A1) ((p.procs).length) (cp2), .slice (A4) ((p.main).length) (cp5), .slice (A7) ((p.recover).length) (cp8), .slice (A10) ((p.oracles).length) (cp11)]).toArray 26)])
    (fun z => Hp.le (I15) z.1 ∧ F_size_l0 left p.procs ((((p.procs).length : Nat) : Int) + (((p.oracles).length : Nat) : Int)) = .inr z.2) (fun hk25 => ?_) ?_
   ·
    refine JJ.block ?_
    refine JJ.induct (X := Nat × Hp × Int) (fun z => [(1, .int .i64 (min left 1000)), (2, .pointer (some ⟨b13, 0, none⟩)), (5, .int .i64 (z.2.2)), (6, .int .i64 (((z.1 : Nat) : Int)))]) (fun z => z.2.1) (fun z => [blk b13 (.cells ([.slice (A1) ((p.procs).length) (cp2), .slice (A4) ((p.main).length) (cp5), .slice (A7) ((p.recover).length) (cp8), .slice (A10) ((p.oracles).length) (cp11)]).toArray 26)])
     (fun z => z.1 ≤ (p.procs).length ∧ Hp.le (I15) z.2.1 ∧ F_size_l0 left p.procs ((((p.procs).length : Nat) : Int) + (((p.oracles).length : Nat) : Int)) = F_size_l0 left (List.drop z.1 p.procs) z.2.2) (fun z => (p.procs).length - z.1)
     (0, I15, (((p.procs).length : Nat) : Int) + (((p.oracles).length : Nat) : Int)) ⟨Nat.zero_le _, .refl _, by rw [List.drop_zero]⟩
     (fun h => JJ.keep _ (by repeat (first | exact trivial | refine ⟨rfl, ?_⟩)) h) ?_
    rintro ⟨i18, I20, v5_17⟩ ⟨hi23, hle21, hsp22⟩ ih24
    try dsimp only at hi23 hle21 hsp22 ih24 ⊢
    rcases Nat.lt_or_ge i18 ((p.procs).length) with hlt_i18 | hge_i18
    ·
     obtain ⟨d19, hd_d19⟩ : ∃ d19, (p.procs)[i18]? = some d19 := ⟨_, List.getElem?_eq_getElem hlt_i18⟩
     have hdr_i18 : List.drop i18 p.procs = d19 :: List.drop (i18 + 1) p.procs := drop_cons hd_d19
     have hz26 := Pc.szl_mem (List.mem_of_getElem? hd_d19)
     have hy27 : (d19).sz = St.szl (d19).body + 1 := rfl
     have hl28 := St.szl_len (d19).body
     refine JJ.seq ?_
     refine JJ.seq ?_
     refine JJ.region rfl fun rg => ?_
     refine JJ.move rg rfl rfl rfl ?_
     refine JJ.fieldAddr (a' := ⟨b13, 0, none⟩) fo26_0 rg rfl rfl rfl rfl ?_
     refine JJ.loadL (v := .slice (A1) ((p.procs).length) (cp2)) ty22 0 rg rfl rfl rfl rfl rfl ?_
     refine JJ.lenSlice ss22 rg rfl rfl rfl ?_
     refine JJ.bin (v := .bool true) rg rfl rfl rfl rfl (congrArg (fun b => some (Value.bool b)) (decide_eq_true (by omega))) ?_
     refine JJ.regionEnd ?_
     refine JJ.cond (b := true) rfl ?_
     refine JJ.skip ?_
     refine JJ.seq ?_
     refine JJ.block ?_
     refine JJ.seq ?_
     refine JJ.region rfl fun rg => ?_
     refine JJ.move rg rfl rfl rfl ?_
     refine JJ.fieldAddr (a' := ⟨b13, 0, none⟩) fo26_0 rg rfl rfl rfl rfl ?_
     refine JJ.loadL (v := .slice (A1) ((p.procs).length) (cp2)) ty22 0 rg rfl rfl rfl rfl rfl ?_
     refine JJ.move rg rfl rfl rfl ?_
     obtain ⟨a29, cs30, hA31, hcap32, -, hre33, hrow34⟩ := RSl.get (hx3.mono (hle16.trans hle21)) hd_d19
     have hlthd_d19 := (List.getElem?_eq_some_iff.1 hd_d19).1
     obtain ⟨A35, cp36, rfl, hx37⟩ := RQ.open hre33
     refine JJ.indexAddrA hA31 (a' := a29.add (i18 * 2)) eo22 rg rfl rfl rfl rfl (by omega) (by omega) rfl ?_
     refine JJ.fieldAddr (a' := (a29.add (i18 * 2)).add 1) fo44_1 rg rfl rfl rfl rfl ?_
     refine JJ.loadI (v := .slice (A35) ((d19.body).length) (cp36)) ty23 rg rfl rfl rfl (Row.drop hrow34 1) rfl ?_
     refine JJ.move rg rfl rfl rfl ?_
     refine JJ.move rg rfl rfl rfl ?_
     refine JJ.binI (z := IntKind.i64.wrap ((min left 1000) - v5_17)) rg rfl rfl rfl rfl rfl rfl ?_
     refine JJ.callp bo23 rg rfl rfl rfl rfl (sizeB _ _ _ d19.body hx37 (by first | assumption | omega | (simp; done)) (IntKind.i64.wrap ((min left 1000) - v5_17)) (by first | assumption | omega)) fun _ I40 hle41 _ => ?_
     refine JJ.binI (z := IntKind.i64.wrap (v5_17 + (F_sizeB d19.body (IntKind.i64.wrap ((min left 1000) - v5_17))))) rg rfl rfl rfl rfl rfl rfl ?_
     refine JJ.assign rg rfl rfl rfl ?_
     refine JJ.regionEnd ?_
     refine JJ.seq ?_
     refine JJ.region rfl fun rg => ?_
     refine JJ.fieldAddr (a' := ⟨b13, 0, none⟩) fo26_0 rg rfl rfl rfl rfl ?_
     refine JJ.loadL (v := .slice (A1) ((p.procs).length) (cp2)) ty22 0 rg rfl rfl rfl rfl rfl ?_
     refine JJ.move rg rfl rfl rfl ?_
     refine JJ.indexAddrA hA31 (a' := a29.add (i18 * 2)) eo22 rg rfl rfl rfl rfl (by omega) (by omega) rfl ?_
     refine JJ.fieldAddr (a' := (a29.add (i18 * 2)).add 0) fo44_0 rg rfl rfl rfl rfl ?_
     refine JJ.loadI (v := .string (d19.name)) ty9 rg rfl rfl rfl (Row.drop (hrow34.mono hle41) 0) rfl ?_
     refine JJ.lenString st9 rg rfl rfl rfl ?_
     refine JJ.bin rg rfl rfl rfl rfl rfl ?_
     refine JJ.move rg rfl rfl rfl ?_
     refine JJ.split 58 rfl (fun hg9_9 => ?_) (fun hg9_9 => ?_)
     ·
      have hg9_9b := hg9_9
      replace hg9_9 := of_decide_eq_true hg9_9
      refine JJ.gskip rg rfl rfl ?_
      refine JJ.gskip rg rfl rfl ?_
      refine JJ.gskip rg rfl rfl ?_
      refine JJ.pick (b := true) rg rfl rfl rfl rfl ?_
      refine JJ.regionEnd ?_
      refine JJ.cond (b := true) rfl ?_
      refine JJ.seq ?_
      refine JJ.region rfl fun rg => ?_
      refine JJ.move rg rfl rfl rfl ?_
      refine JJ.binI (z := IntKind.i64.wrap ((min left 1000) + 1)) rg rfl rfl rfl rfl rfl rfl ?_
      refine JJ.assign rg rfl rfl rfl ?_
      refine JJ.regionEnd ?_
      have hE42 : F_size_l0 left p.procs ((((p.procs).length : Nat) : Int) + (((p.oracles).length : Nat) : Int)) = .inl (IntKind.i64.wrap ((min left 1000) + 1)) := by rw [hsp22, hdr_i18]; simp only [F_size_l0, hg9_9b, xb0, xb1, xb2, xb3, xb4, xb5, xb6, xb7, xb8, xb9, xb10, xb11]
      have hF : F_size p left = IntKind.i64.wrap ((min left 1000) + 1) := by simp only [F_size, hc2b, hE42, xb0, xb1, xb2, xb3, xb4, xb5, xb6, xb7, xb8, xb9, xb10, xb11]
      refine JJ.ret1 rfl Try.func11 rfl rfl (fun h h_ => ⟨(), trivial, (by rw [hF]), trivial⟩)
     ·
      have hg9_9b := hg9_9
      replace hg9_9 := of_decide_eq_false hg9_9
      refine JJ.move rg rfl rfl rfl ?_
      refine JJ.move rg rfl rfl rfl ?_
      refine JJ.bin rg rfl rfl rfl rfl rfl ?_
      refine JJ.pick (b := false) rg rfl rfl rfl rfl ?_
      refine JJ.regionEnd ?_
      refine JJ.cond2 rfl (fun hc9 => ?_) (fun hc9 => ?_)
      ·
       have hc9b := hc9
       replace hc9 := of_decide_eq_true hc9
       refine JJ.seq ?_
       refine JJ.region rfl fun rg => ?_
       refine JJ.move rg rfl rfl rfl ?_
       refine JJ.binI (z := IntKind.i64.wrap ((min left 1000) + 1)) rg rfl rfl rfl rfl rfl rfl ?_
       refine JJ.assign rg rfl rfl rfl ?_
       refine JJ.regionEnd ?_
       have hE43 : F_size_l0 left p.procs ((((p.procs).length : Nat) : Int) + (((p.oracles).length : Nat) : Int)) = .inl (IntKind.i64.wrap ((min left 1000) + 1)) := by rw [hsp22, hdr_i18]; simp only [F_size_l0, hg9_9b, hc9b, xb0, xb1, xb2, xb3, xb4, xb5, xb6, xb7, xb8, xb9, xb10, xb11]
       have hF : F_size p left = IntKind.i64.wrap ((min left 1000) + 1) := by simp only [F_size, hc2b, hE43, xb0, xb1, xb2, xb3, xb4, xb5, xb6, xb7, xb8, xb9, xb10, xb11]
       refine JJ.ret1 rfl Try.func11 rfl rfl (fun h h_ => ⟨(), trivial, (by rw [hF]), trivial⟩)
      ·
       have hc9b := hc9
       replace hc9 := of_decide_eq_false hc9
       refine JJ.skip ?_
       refine JJ.inBlock ?_
       refine JJ.region rfl fun rg => ?_
       refine JJ.move rg rfl rfl rfl ?_
       refine JJ.binI (z := ((i18 + 1 : Nat) : Int)) rg rfl rfl rfl rfl rfl (wrap_to (by omega) (by omega) (by omega)) ?_
       refine JJ.assign rg rfl rfl rfl ?_
       refine JJ.regionEnd ?_
       have hnx : F_size_l0 left p.procs ((((p.procs).length : Nat) : Int) + (((p.oracles).length : Nat) : Int)) = F_size_l0 left (List.drop (i18 + 1) p.procs) (IntKind.i64.wrap (v5_17 + (F_sizeB d19.body (IntKind.i64.wrap ((min left 1000) - v5_17))))) := by rw [hsp22, hdr_i18]; simp only [F_size_l0, hg9_9b, hc9b, xb0, xb1, xb2, xb3, xb4, xb5, xb6, xb7, xb8, xb9, xb10, xb11]
       refine JJ.keep _ ?_ (ih24 (i18 + 1, I40, IntKind.i64.wrap (v5_17 + (F_sizeB d19.body (IntKind.i64.wrap ((min left 1000) - v5_17))))) ⟨hlt_i18, (hle21.trans hle41), hnx⟩ (by dsimp only; omega))
       repeat (first | exact trivial | refine ⟨rfl, ?_⟩)
    ·
     have heq_i18 : i18 = (p.procs).length := by omega
     have hdr_i18 : List.drop i18 p.procs = [] := by rw [heq_i18]; exact List.drop_length
     refine JJ.seq ?_
     refine JJ.seq ?_
     refine JJ.region rfl fun rg => ?_
     refine JJ.move rg rfl rfl rfl ?_
     refine JJ.fieldAddr (a' := ⟨b13, 0, none⟩) fo26_0 rg rfl rfl rfl rfl ?_
     refine JJ.loadL (v := .slice (A1) ((p.procs).length) (cp2)) ty22 0 rg rfl rfl rfl rfl rfl ?_
     refine JJ.lenSlice ss22 rg rfl rfl rfl ?_
     refine JJ.bin (v := .bool false) rg rfl rfl rfl rfl (congrArg (fun b => some (Value.bool b)) (decide_eq_false (by omega))) ?_
     refine JJ.regionEnd ?_
     refine JJ.cond (b := false) rfl ?_
     refine JJ.exit rfl ?_
     have hE : F_size_l0 left p.procs ((((p.procs).length : Nat) : Int) + (((p.oracles).length : Nat) : Int)) = .inr v5_17 := by rw [hsp22, hdr_i18]; simp only [F_size_l0, xb0, xb1, xb2, xb3, xb4, xb5, xb6, xb7, xb8, xb9, xb10, xb11]
     refine JJ.keep _ ?_ (hk25 (I20, v5_17) ⟨hle21, hE⟩)
     repeat (first | exact trivial | refine ⟨rfl, ?_⟩)
   ·
    rintro ⟨I44, v5_17⟩ ⟨hle45, hE46⟩
    try dsimp only at hle45 hE46 ⊢
    refine JJ.seq ?_
    refine JJ.region rfl fun rg => ?_
    refine JJ.move rg rfl rfl rfl ?_
    refine JJ.fieldAddr (a' := ⟨b13, 1, none⟩) fo26_1 rg rfl rfl rfl rfl ?_
    refine JJ.loadL (v := .slice (A4) ((p.main).length) (cp5)) ty23 0 rg rfl rfl rfl rfl rfl ?_
    refine JJ.move rg rfl rfl rfl ?_
    refine JJ.move rg rfl rfl rfl ?_
    refine JJ.binI (z := IntKind.i64.wrap ((min left 1000) - v5_17)) rg rfl rfl rfl rfl rfl rfl ?_
    refine JJ.callp bo23 rg rfl rfl rfl rfl (sizeB _ _ _ p.main (hx6.mono (hle16.trans hle45)) (by first | assumption | omega | (simp; done)) (IntKind.i64.wrap ((min left 1000) - v5_17)) (by first | assumption | omega)) fun _ I49 hle50 _ => ?_
    refine JJ.binI (z := IntKind.i64.wrap (v5_17 + (F_sizeB p.main (IntKind.i64.wrap ((min left 1000) - v5_17))))) rg rfl rfl rfl rfl rfl rfl ?_
    refine JJ.assign rg rfl rfl rfl ?_
    refine JJ.regionEnd ?_
    refine JJ.seq ?_
    refine JJ.seq ?_
    refine JJ.region rfl fun rg => ?_
    refine JJ.move rg rfl rfl rfl ?_
    refine JJ.move rg rfl rfl rfl ?_
    refine JJ.bin rg rfl rfl rfl rfl rfl ?_
    refine JJ.regionEnd ?_
    refine JJ.cut (X := Hp) (fun _ => [(5, .int .i64 ((bif decide ((IntKind.i64.wrap (v5_17 + (F_sizeB p.main (IntKind.i64.wrap ((min left 1000) - v5_17)))) : Int) ≤ min left 1000) then IntKind.i64.wrap ((IntKind.i64.wrap (v5_17 + (F_sizeB p.main (IntKind.i64.wrap ((min left 1000) - v5_17))))) + (F_sizeB p.recover (IntKind.i64.wrap ((min left 1000) - (IntKind.i64.wrap (v5_17 + (F_sizeB p.main (IntKind.i64.wrap ((min left 1000) - v5_17))))))))) else IntKind.i64.wrap (v5_17 + (F_sizeB p.main (IntKind.i64.wrap ((min left 1000) - v5_17))))))), (1, .int .i64 (min left 1000)), (2, .pointer (some ⟨b13, 0, none⟩))]) (fun x => x) (fun _ => [blk b13 (.cells ([.slice (A1) ((p.procs).length) (cp2), .slice (A4) ((p.main).length) (cp5), .slice (A7) ((p.recover).length) (cp8), .slice (A10) ((p.oracles).length) (cp11)]).toArray 26)]) (fun x => Hp.le (I49) x) (fun hk51 => ?_) ?_
    ·
     refine JJ.cond2 rfl (fun hc12 => ?_) (fun hc12 => ?_)
     ·
      have hc12b := hc12
      replace hc12 := of_decide_eq_true hc12
      refine JJ.region rfl fun rg => ?_
      refine JJ.move rg rfl rfl rfl ?_
      refine JJ.fieldAddr (a' := ⟨b13, 2, none⟩) fo26_2 rg rfl rfl rfl rfl ?_
      refine JJ.loadL (v := .slice (A7) ((p.recover).length) (cp8)) ty23 0 rg rfl rfl rfl rfl rfl ?_
      refine JJ.move rg rfl rfl rfl ?_
      refine JJ.move rg rfl rfl rfl ?_
      refine JJ.binI (z := IntKind.i64.wrap ((min left 1000) - (IntKind.i64.wrap (v5_17 + (F_sizeB p.main (IntKind.i64.wrap ((min left 1000) - v5_17))))))) rg rfl rfl rfl rfl rfl rfl ?_
      refine JJ.callp bo23 rg rfl rfl rfl rfl (sizeB _ _ _ p.recover (hx9.mono (hle16.trans (hle45.trans hle50))) (by first | assumption | omega | (simp; done)) (IntKind.i64.wrap ((min left 1000) - (IntKind.i64.wrap (v5_17 + (F_sizeB p.main (IntKind.i64.wrap ((min left 1000) - v5_17))))))) (by first | assumption | omega)) fun _ I56 hle57 _ => ?_
      refine JJ.binI (z := IntKind.i64.wrap ((IntKind.i64.wrap (v5_17 + (F_sizeB p.main (IntKind.i64.wrap ((min left 1000) - v5_17))))) + (F_sizeB p.recover (IntKind.i64.wrap ((min left 1000) - (IntKind.i64.wrap (v5_17 + (F_sizeB p.main (IntKind.i64.wrap ((min left 1000) - v5_17)))))))))) rg rfl rfl rfl rfl rfl rfl ?_
      refine JJ.assign rg rfl rfl rfl ?_
      refine JJ.regionEnd ?_
      refine JJ.keep _ ?_ (hk51 _ hle57)
      exact ⟨congrArg (fun z => some (Value.int .i64 z)) (by simp only [hc12b, xb0, xb1, xb2, xb3, xb4, xb5, xb6, xb7, xb8, xb9, xb10, xb11]), rfl, rfl, trivial⟩
     ·
      have hc12b := hc12
      replace hc12 := of_decide_eq_false hc12
      refine JJ.skip ?_
      refine JJ.keep _ ?_ (hk51 _ (.refl _))
      exact ⟨congrArg (fun z => some (Value.int .i64 z)) (by simp only [hc12b, xb0, xb1, xb2, xb3, xb4, xb5, xb6, xb7, xb8, xb9, xb10, xb11]), rfl, rfl, trivial⟩
    ·
     intro I52 hle53
     refine JJ.seq ?_
     refine JJ.seq ?_
     refine JJ.region rfl fun rg => ?_
     refine JJ.assign rg rfl rfl rfl ?_
     refine JJ.regionEnd ?_
     refine JJ.cut (X := Hp × Int) (fun z => [(5, .int .i64 (z.2))]) (fun z => z.1) (fun z => [blk b13 (.cells ([.slice (A1) ((p.procs).length) (cp2), .slice (A4) ((p.main).length) (cp5), .slice (A7) ((p.recover).length) (cp8), .slice (A10) ((p.oracles).length) (cp11)]).toArray 26)])
      (fun z => Hp.le (I52) z.1 ∧ F_size_l2 left p.oracles ((bif decide ((IntKind.i64.wrap (v5_17 + (F_sizeB p.main (IntKind.i64.wrap ((min left 1000) - v5_17)))) : Int) ≤ min left 1000) then IntKind.i64.wrap ((IntKind.i64.wrap (v5_17 + (F_sizeB p.main (IntKind.i64.wrap ((min left 1000) - v5_17))))) + (F_sizeB p.recover (IntKind.i64.wrap ((min left 1000) - (IntKind.i64.wrap (v5_17 + (F_sizeB p.main (IntKind.i64.wrap ((min left 1000) - v5_17))))))))) else IntKind.i64.wrap (v5_17 + (F_sizeB p.main (IntKind.i64.wrap ((min left 1000) - v5_17)))))) = .inr z.2) (fun hk66 => ?_) ?_
     ·
      refine JJ.block ?_
      refine JJ.induct (X := Nat × Hp × Int) (fun z => [(1, .int .i64 (min left 1000)), (2, .pointer (some ⟨b13, 0, none⟩)), (5, .int .i64 (z.2.2)), (7, .int .i64 (((z.1 : Nat) : Int)))]) (fun z => z.2.1) (fun z => [blk b13 (.cells ([.slice (A1) ((p.procs).length) (cp2), .slice (A4) ((p.main).length) (cp5), .slice (A7) ((p.recover).length) (cp8), .slice (A10) ((p.oracles).length) (cp11)]).toArray 26)])
       (fun z => z.1 ≤ (p.oracles).length ∧ Hp.le (I52) z.2.1 ∧ F_size_l2 left p.oracles ((bif decide ((IntKind.i64.wrap (v5_17 + (F_sizeB p.main (IntKind.i64.wrap ((min left 1000) - v5_17)))) : Int) ≤ min left 1000) then IntKind.i64.wrap ((IntKind.i64.wrap (v5_17 + (F_sizeB p.main (IntKind.i64.wrap ((min left 1000) - v5_17))))) + (F_sizeB p.recover (IntKind.i64.wrap ((min left 1000) - (IntKind.i64.wrap (v5_17 + (F_sizeB p.main (IntKind.i64.wrap ((min left 1000) - v5_17))))))))) else IntKind.i64.wrap (v5_17 + (F_sizeB p.main (IntKind.i64.wrap ((min left 1000) - v5_17)))))) = F_size_l2 left (List.drop z.1 p.oracles) z.2.2) (fun z => (p.oracles).length - z.1)
       (0, I52, (bif decide ((IntKind.i64.wrap (v5_17 + (F_sizeB p.main (IntKind.i64.wrap ((min left 1000) - v5_17)))) : Int) ≤ min left 1000) then IntKind.i64.wrap ((IntKind.i64.wrap (v5_17 + (F_sizeB p.main (IntKind.i64.wrap ((min left 1000) - v5_17))))) + (F_sizeB p.recover (IntKind.i64.wrap ((min left 1000) - (IntKind.i64.wrap (v5_17 + (F_sizeB p.main (IntKind.i64.wrap ((min left 1000) - v5_17))))))))) else IntKind.i64.wrap (v5_17 + (F_sizeB p.main (IntKind.i64.wrap ((min left 1000) - v5_17)))))) ⟨Nat.zero_le _, .refl _, by rw [List.drop_zero]⟩
       (fun h => JJ.keep _ (by repeat (first | exact trivial | refine ⟨rfl, ?_⟩)) h) ?_
      rintro ⟨i59, I61, v5_58⟩ ⟨hi64, hle62, hsp63⟩ ih65
      try dsimp only at hi64 hle62 hsp63 ih65 ⊢
      rcases Nat.lt_or_ge i59 ((p.oracles).length) with hlt_i59 | hge_i59
      ·
       obtain ⟨d60, hd_d60⟩ : ∃ d60, (p.oracles)[i59]? = some d60 := ⟨_, List.getElem?_eq_getElem hlt_i59⟩
       have hdr_i59 : List.drop i59 p.oracles = d60 :: List.drop (i59 + 1) p.oracles := drop_cons hd_d60
       have hz67 := Oc.szl_mem (List.mem_of_getElem? hd_d60)
       have hy68 : (d60).sz = (d60).e.sz + 1 := rfl
       refine JJ.seq ?_
       refine JJ.seq ?_
       refine JJ.region rfl fun rg => ?_
       refine JJ.move rg rfl rfl rfl ?_
       refine JJ.fieldAddr (a' := ⟨b13, 3, none⟩) fo26_3 rg rfl rfl rfl rfl ?_
       refine JJ.loadL (v := .slice (A10) ((p.oracles).length) (cp11)) ty24 0 rg rfl rfl rfl rfl rfl ?_
       refine JJ.lenSlice ss24 rg rfl rfl rfl ?_
       refine JJ.bin (v := .bool true) rg rfl rfl rfl rfl (congrArg (fun b => some (Value.bool b)) (decide_eq_true (by omega))) ?_
       refine JJ.move rg rfl rfl rfl ?_
       refine JJ.move rg rfl rfl rfl ?_
       refine JJ.move rg rfl rfl rfl ?_
       refine JJ.bin rg rfl rfl rfl rfl rfl ?_
       refine JJ.pick (b := true) rg rfl rfl rfl rfl ?_
       refine JJ.regionEnd ?_
       refine JJ.cond2 rfl (fun hc15 => ?_) (fun hc15 => ?_)
       ·
        have hc15b := hc15
        replace hc15 := of_decide_eq_true hc15
        refine JJ.skip ?_
        refine JJ.seq ?_
        refine JJ.block ?_
        refine JJ.seq ?_
        refine JJ.region rfl fun rg => ?_
        refine JJ.move rg rfl rfl rfl ?_
        refine JJ.fieldAddr (a' := ⟨b13, 3, none⟩) fo26_3 rg rfl rfl rfl rfl ?_
        refine JJ.loadL (v := .slice (A10) ((p.oracles).length) (cp11)) ty24 0 rg rfl rfl rfl rfl rfl ?_
        refine JJ.move rg rfl rfl rfl ?_
        obtain ⟨a69, cs70, hA71, hcap72, -, hre73, hrow74⟩ := RSl.get (hx12.mono (hle16.trans (hle45.trans (hle50.trans (hle53.trans hle62))))) hd_d60
        have hlthd_d60 := (List.getElem?_eq_some_iff.1 hd_d60).1
        obtain ⟨A76, cp77, rfl, hx78⟩ := RO.open hre73
        refine JJ.indexAddrA hA71 (a' := a69.add (i59 * 5)) eo24 rg rfl rfl rfl rfl (by omega) (by omega) rfl ?_
        refine JJ.fieldAddr (a' := (a69.add (i59 * 5)).add 1) fo55_1 rg rfl rfl rfl rfl ?_
        refine JJ.loadI (v := .agg #[.int .i64 (d60.e.op), .int .i64 (d60.e.n), .string (d60.e.s), .slice (A76) ((d60.e.x).length) (cp77)]) ty53 rg rfl rfl rfl (Row.drop hrow74 1) rfl ?_
        refine JJ.move rg rfl rfl rfl ?_
        refine JJ.move rg rfl rfl rfl ?_
        refine JJ.binI (z := IntKind.i64.wrap ((min left 1000) - v5_58)) rg rfl rfl rfl rfl rfl rfl ?_
        refine JJ.callp bo24 rg rfl rfl rfl rfl (sizeX _ _ d60.e (RX.cl hx78) (IntKind.i64.wrap ((min left 1000) - v5_58)) (by first | assumption | omega)) fun _ I81 hle82 _ => ?_
        refine JJ.binI (z := IntKind.i64.wrap (v5_58 + (F_sizeX d60.e (IntKind.i64.wrap ((min left 1000) - v5_58))))) rg rfl rfl rfl rfl rfl rfl ?_
        refine JJ.assign rg rfl rfl rfl ?_
        refine JJ.regionEnd ?_
        refine JJ.seq ?_
        refine JJ.region rfl fun rg => ?_
        refine JJ.fieldAddr (a' := ⟨b13, 3, none⟩) fo26_3 rg rfl rfl rfl rfl ?_
        refine JJ.loadL (v := .slice (A10) ((p.oracles).length) (cp11)) ty24 0 rg rfl rfl rfl rfl rfl ?_
        refine JJ.move rg rfl rfl rfl ?_
        refine JJ.indexAddrA hA71 (a' := a69.add (i59 * 5)) eo24 rg rfl rfl rfl rfl (by omega) (by omega) rfl ?_
        refine JJ.fieldAddr (a' := (a69.add (i59 * 5)).add 0) fo55_0 rg rfl rfl rfl rfl ?_
        refine JJ.loadI (v := .string (d60.name)) ty9 rg rfl rfl rfl (Row.drop (hrow74.mono hle82) 0) rfl ?_
        refine JJ.lenString st9 rg rfl rfl rfl ?_
        refine JJ.bin rg rfl rfl rfl rfl rfl ?_
        refine JJ.regionEnd ?_
        refine JJ.cond2 rfl (fun hc18 => ?_) (fun hc18 => ?_)
        ·
         have hc18b := hc18
         replace hc18 := of_decide_eq_true hc18
         refine JJ.seq ?_
         refine JJ.region rfl fun rg => ?_
         refine JJ.move rg rfl rfl rfl ?_
         refine JJ.binI (z := IntKind.i64.wrap ((min left 1000) + 1)) rg rfl rfl rfl rfl rfl rfl ?_
         refine JJ.assign rg rfl rfl rfl ?_
         refine JJ.regionEnd ?_
         have hE83 : F_size_l2 left p.oracles ((bif decide ((IntKind.i64.wrap (v5_17 + (F_sizeB p.main (IntKind.i64.wrap ((min left 1000) - v5_17)))) : Int) ≤ min left 1000) then IntKind.i64.wrap ((IntKind.i64.wrap (v5_17 + (F_sizeB p.main (IntKind.i64.wrap ((min left 1000) - v5_17))))) + (F_sizeB p.recover (IntKind.i64.wrap ((min left 1000) - (IntKind.i64.wrap (v5_17 + (F_sizeB p.main (IntKind.i64.wrap ((min left 1000) - v5_17))))))))) else IntKind.i64.wrap (v5_17 + (F_sizeB p.main (IntKind.i64.wrap ((min left 1000) - v5_17)))))) = .inl (IntKind.i64.wrap ((min left 1000) + 1)) := by rw [hsp63, hdr_i59]; simp only [F_size_l2, hc15b, hc18b, xb0, xb1, xb2, xb3, xb4, xb5, xb6, xb7, xb8, xb9, xb10, xb11]
         have hF : F_size p left = IntKind.i64.wrap ((min left 1000) + 1) := by simp only [F_size, hc2b, hE46, hE83, xb0, xb1, xb2, xb3, xb4, xb5, xb6, xb7, xb8, xb9, xb10, xb11]
         refine JJ.ret1 rfl Try.func11 rfl rfl (fun h h_ => ⟨(), trivial, (by rw [hF]), trivial⟩)
        ·
         have hc18b := hc18
         replace hc18 := of_decide_eq_false hc18
         refine JJ.skip ?_
         refine JJ.inBlock ?_
         refine JJ.region rfl fun rg => ?_
         refine JJ.move rg rfl rfl rfl ?_
         refine JJ.binI (z := ((i59 + 1 : Nat) : Int)) rg rfl rfl rfl rfl rfl (wrap_to (by omega) (by omega) (by omega)) ?_
         refine JJ.assign rg rfl rfl rfl ?_
         refine JJ.regionEnd ?_
         have hnx : F_size_l2 left p.oracles ((bif decide ((IntKind.i64.wrap (v5_17 + (F_sizeB p.main (IntKind.i64.wrap ((min left 1000) - v5_17)))) : Int) ≤ min left 1000) then IntKind.i64.wrap ((IntKind.i64.wrap (v5_17 + (F_sizeB p.main (IntKind.i64.wrap ((min left 1000) - v5_17))))) + (F_sizeB p.recover (IntKind.i64.wrap ((min left 1000) - (IntKind.i64.wrap (v5_17 + (F_sizeB p.main (IntKind.i64.wrap ((min left 1000) - v5_17))))))))) else IntKind.i64.wrap (v5_17 + (F_sizeB p.main (IntKind.i64.wrap ((min left 1000) - v5_17)))))) = F_size_l2 left (List.drop (i59 + 1) p.oracles) (IntKind.i64.wrap (v5_58 + (F_sizeX d60.e (IntKind.i64.wrap ((min left 1000) - v5_58))))) := by rw [hsp63, hdr_i59]; simp only [F_size_l2, hc15b, hc18b, xb0, xb1, xb2, xb3, xb4, xb5, xb6, xb7, xb8, xb9, xb10, xb11]
         refine JJ.keep _ ?_ (ih65 (i59 + 1, I81, IntKind.i64.wrap (v5_58 + (F_sizeX d60.e (IntKind.i64.wrap ((min left 1000) - v5_58))))) ⟨hlt_i59, (hle62.trans hle82), hnx⟩ (by dsimp only; omega))
         repeat (first | exact trivial | refine ⟨rfl, ?_⟩)
       ·
        have hc15b := hc15
        replace hc15 := of_decide_eq_false hc15
        refine JJ.exit rfl ?_
        have hE : F_size_l2 left p.oracles ((bif decide ((IntKind.i64.wrap (v5_17 + (F_sizeB p.main (IntKind.i64.wrap ((min left 1000) - v5_17)))) : Int) ≤ min left 1000) then IntKind.i64.wrap ((IntKind.i64.wrap (v5_17 + (F_sizeB p.main (IntKind.i64.wrap ((min left 1000) - v5_17))))) + (F_sizeB p.recover (IntKind.i64.wrap ((min left 1000) - (IntKind.i64.wrap (v5_17 + (F_sizeB p.main (IntKind.i64.wrap ((min left 1000) - v5_17))))))))) else IntKind.i64.wrap (v5_17 + (F_sizeB p.main (IntKind.i64.wrap ((min left 1000) - v5_17)))))) = .inr v5_58 := by rw [hsp63, hdr_i59]; simp only [F_size_l2, hc15b, xb0, xb1, xb2, xb3, xb4, xb5, xb6, xb7, xb8, xb9, xb10, xb11]
        refine JJ.keep _ ?_ (hk66 (I61, v5_58) ⟨hle62, hE⟩)
        repeat (first | exact trivial | refine ⟨rfl, ?_⟩)
      ·
       have heq_i59 : i59 = (p.oracles).length := by omega
       have hdr_i59 : List.drop i59 p.oracles = [] := by rw [heq_i59]; exact List.drop_length
       refine JJ.seq ?_
       refine JJ.seq ?_
       refine JJ.region rfl fun rg => ?_
       refine JJ.move rg rfl rfl rfl ?_
       refine JJ.fieldAddr (a' := ⟨b13, 3, none⟩) fo26_3 rg rfl rfl rfl rfl ?_
       refine JJ.loadL (v := .slice (A10) ((p.oracles).length) (cp11)) ty24 0 rg rfl rfl rfl rfl rfl ?_
       refine JJ.lenSlice ss24 rg rfl rfl rfl ?_
       refine JJ.bin (v := .bool false) rg rfl rfl rfl rfl (congrArg (fun b => some (Value.bool b)) (decide_eq_false (by omega))) ?_
       refine JJ.move rg rfl rfl rfl ?_
       refine JJ.gskip rg rfl rfl ?_
       refine JJ.gskip rg rfl rfl ?_
       refine JJ.gskip rg rfl rfl ?_
       refine JJ.pick (b := false) rg rfl rfl rfl rfl ?_
       refine JJ.regionEnd ?_
       refine JJ.cond (b := false) rfl ?_
       refine JJ.exit rfl ?_
       have hE : F_size_l2 left p.oracles ((bif decide ((IntKind.i64.wrap (v5_17 + (F_sizeB p.main (IntKind.i64.wrap ((min left 1000) - v5_17)))) : Int) ≤ min left 1000) then IntKind.i64.wrap ((IntKind.i64.wrap (v5_17 + (F_sizeB p.main (IntKind.i64.wrap ((min left 1000) - v5_17))))) + (F_sizeB p.recover (IntKind.i64.wrap ((min left 1000) - (IntKind.i64.wrap (v5_17 + (F_sizeB p.main (IntKind.i64.wrap ((min left 1000) - v5_17))))))))) else IntKind.i64.wrap (v5_17 + (F_sizeB p.main (IntKind.i64.wrap ((min left 1000) - v5_17)))))) = .inr v5_58 := by rw [hsp63, hdr_i59]; simp only [F_size_l2, xb0, xb1, xb2, xb3, xb4, xb5, xb6, xb7, xb8, xb9, xb10, xb11]
       refine JJ.keep _ ?_ (hk66 (I61, v5_58) ⟨hle62, hE⟩)
       repeat (first | exact trivial | refine ⟨rfl, ?_⟩)
     ·
      rintro ⟨I84, v5_58⟩ ⟨hle85, hE86⟩
      try dsimp only at hle85 hE86 ⊢
      refine JJ.seq ?_
      refine JJ.region rfl fun rg => ?_
      refine JJ.move rg rfl rfl rfl ?_
      refine JJ.assign rg rfl rfl rfl ?_
      refine JJ.regionEnd ?_
      have hF : F_size p left = v5_58 := by simp only [F_size, hc2b, hE46, hE86, xb0, xb1, xb2, xb3, xb4, xb5, xb6, xb7, xb8, xb9, xb10, xb11]
      refine JJ.ret1 rfl Try.func11 rfl rfl (fun h h_ => ⟨(), trivial, (by rw [hF]), trivial⟩)
def F_small (p : Pg) : Bool :=
  decide ((F_size p 600 : Int) ≤ 600)
set_option maxHeartbeats 4000000 in
theorem small (I : Hp) (cs_p : List Value) (p : Pg) (h_p : RP I cs_p p) (hz : p.sz ≤ 4294967296) : Fn Try.prog 4 #[.agg (cs_p).toArray] I [] (Ret (X := Unit) (fun x_ I' => True) (fun x_ => .bool (F_small p)) fun _ => []) := by
 obtain ⟨A1, cp2, A4, cp5, A7, cp8, A10, cp11, rfl, hx3, hx6, hx9, hx12⟩ := RP.open h_p
 refine Fn.of (args := [_]) Try.func4 rfl rfl ?_
 refine JJ.seq ?_
 refine JJ.region rfl fun rg => ?_
 refine JJ.box (cs := [.slice (A1) ((p.procs).length) (cp2), .slice (A4) ((p.main).length) (cp5), .slice (A7) ((p.recover).length) (cp8), .slice (A10) ((p.oracles).length) (cp11)]) rg rfl rfl rfl rfl fun b13 => ?_
 refine JJ.assign rg rfl rfl rfl ?_
 refine JJ.regionEnd ?_
 refine JJ.seq ?_
 refine JJ.region rfl fun rg => ?_
 refine JJ.loadL (v := .agg #[.slice (A1) ((p.procs).length) (cp2), .slice (A4) ((p.main).length) (cp5), .slice (A7) ((p.recover).length) (cp8), .slice (A10) ((p.oracles).length) (cp11)]) ty26 0 rg rfl rfl rfl rfl rfl ?_
 refine JJ.callp bo11 rg rfl rfl rfl rfl (size _ _ p h_p 600 (by first | assumption | omega)) fun _ I16 hle17 _ => ?_
 refine JJ.bin rg rfl rfl rfl rfl rfl ?_
 refine JJ.assign rg rfl rfl rfl ?_
 refine JJ.regionEnd ?_
 have hF : F_small p = decide ((F_size p 600 : Int) ≤ 600) := by simp only [F_small, xb0, xb1, xb2, xb3, xb4, xb5, xb6, xb7, xb8, xb9, xb10, xb11]
 refine JJ.ret1 rfl Try.func4 rfl rfl (fun h h_ => ⟨(), trivial, (by rw [hF]), trivial⟩)
theorem bor {a b : Bool} (h : (a || b) = false) : a = false ∧ b = false := by simpa using h
mutual
def F_sameX_l0 (y : Ex) : Nat → List Ex → Sum (Bool) (Unit)
  | _, [] => .inr ()
  | i13, d14 :: LREST => bif !(F_sameX d14 (y.x.getD i13 default)) then (.inl false) else (F_sameX_l0 y (i13 + 1) LREST)
  termination_by _ l => 2 * Ex.szl l + 1
  decreasing_by all_goals ((try simp only [Ex.szl, Ex.sz_eq, St.szl, St.sz_eq]); omega)
def F_sameX (x : Ex) (y : Ex) : Bool :=
  bif ((!decide ((x.op : Int) = y.op)) || (((!decide ((x.n : Int) = y.n)) || (((!decide (x.s.data.toList = y.s.data.toList)) || (!decide (((((x.x).length : Nat) : Int) : Int) = (((y.x).length : Nat) : Int)))))))) then (false) else ((match F_sameX_l0 y 0 x.x with | .inl r_ => r_ | .inr () => true))
  termination_by 2 * x.sz
  decreasing_by all_goals ((try simp only [Ex.szl, Ex.sz_eq, St.szl, St.sz_eq]); omega)
end
set_option maxHeartbeats 4000000 in
theorem sameX_rec : ∀ (N : Nat) (I : Hp) (cs_x : List Value) (x : Ex) (h_x : RX I cs_x x) (cs_y : List Value) (y : Ex) (h_y : RX I cs_y y) (hz : x.sz ≤ 4294967296) (hz2 : y.sz ≤ 4294967296) (hN : x.sz < N), Fn Try.prog 16 #[.agg (cs_x).toArray, .agg (cs_y).toArray] I [] (Ret (X := Unit) (fun x_ I' => True) (fun x_ => .bool (F_sameX x y)) fun _ => []) := by
 intro N
 induction N with
 | zero => intro I cs_x x h_x cs_y y h_y hz hz2 hN; exact absurd hN (by omega)
 | succ N ih =>
 intro I cs_x x h_x cs_y y h_y hz hz2 hN
 have hy_x := x.sz_eq
 have hl_x := Ex.szl_len x.x
 have hy_y := y.sz_eq
 have hl_y := Ex.szl_len y.x
 obtain ⟨A1, cp2, rfl, hx3⟩ := RX.open h_x
 obtain ⟨A4, cp5, rfl, hx6⟩ := RX.open h_y
 refine Fn.of (args := [_, _]) Try.func16 rfl rfl ?_
 refine JJ.seq ?_
 refine JJ.region rfl fun rg => ?_
 refine JJ.box (cs := [.int .i64 (x.op), .int .i64 (x.n), .string (x.s), .slice (A1) ((x.x).length) (cp2)]) rg rfl rfl rfl rfl fun b7 => ?_
 refine JJ.box (cs := [.int .i64 (y.op), .int .i64 (y.n), .string (y.s), .slice (A4) ((y.x).length) (cp5)]) rg rfl rfl rfl rfl fun b8 => ?_
 refine JJ.assign rg rfl rfl rfl ?_
 refine JJ.regionEnd ?_
 refine JJ.seq ?_
 refine JJ.seq ?_
 refine JJ.cut (X := Hp) (fun _ => [(33, .bool (((!decide ((x.op : Int) = y.op)) || (((!decide ((x.n : Int) = y.n)) || (((!decide (x.s.data.toList = y.s.data.toList)) || (!decide (((((x.x).length : Nat) : Int) : Int) = (((y.x).length : Nat) : Int)))))))))), (2, .pointer (some ⟨b7, 0, none⟩)), (3, .pointer (some ⟨b8, 0, none⟩))]) (fun x => x) (fun _ => [blk b8 (.cells ([.int .i64 (y.op), .int .i64 (y.n), .string (y.s), .slice (A4) ((y.x).length) (cp5)]).toArray 53), blk b7 (.cells ([.int .i64 (x.op), .int .i64 (x.n), .string (x.s), .slice (A1) ((x.x).length) (cp2)]).toArray 53)]) (fun x => Hp.le (I) x) (fun hk9 => ?_) ?_
 ·
  refine JJ.region rfl fun rg => ?_
  refine JJ.fieldAddr (a' := ⟨b7, 0, none⟩) fo53_0 rg rfl rfl rfl rfl ?_
  refine JJ.loadL (v := .int .i64 (x.op)) ty3 1 rg rfl rfl rfl rfl rfl ?_
  refine JJ.fieldAddr (a' := ⟨b8, 0, none⟩) fo53_0 rg rfl rfl rfl rfl ?_
  refine JJ.loadL (v := .int .i64 (y.op)) ty3 0 rg rfl rfl rfl rfl rfl ?_
  refine JJ.bin rg rfl rfl rfl rfl rfl ?_
  refine JJ.move rg rfl rfl rfl ?_
  refine JJ.split 11 rfl (fun hg1_6 => ?_) (fun hg1_6 => ?_)
  ·
   have hg1_6b := hg1_6
   replace hg1_6 := not_t hg1_6
   replace hg1_6b := hg1_6
   replace hg1_6 := of_decide_eq_false hg1_6
   refine JJ.gskip rg rfl rfl ?_
   refine JJ.gskip rg rfl rfl ?_
   refine JJ.gskip rg rfl rfl ?_
   refine JJ.gskip rg rfl rfl ?_
   refine JJ.gskip rg rfl rfl ?_
   refine JJ.pick (b := true) rg rfl rfl rfl rfl ?_
   refine JJ.move rg rfl rfl rfl ?_
   refine JJ.gskip rg rfl rfl ?_
   refine JJ.gskip rg rfl rfl ?_
   refine JJ.gskip rg rfl rfl ?_
   refine JJ.gskip rg rfl rfl ?_
   refine JJ.gskip rg rfl rfl ?_
   refine JJ.pick (b := true) rg rfl rfl rfl rfl ?_
   refine JJ.move rg rfl rfl rfl ?_
   refine JJ.gskip rg rfl rfl ?_
   refine JJ.gskip rg rfl rfl ?_
   refine JJ.gskip rg rfl rfl ?_
   refine JJ.gskip rg rfl rfl ?_
   refine JJ.gskip rg rfl rfl ?_
   refine JJ.gskip rg rfl rfl ?_
   refine JJ.gskip rg rfl rfl ?_
   refine JJ.pick (b := true) rg rfl rfl rfl rfl ?_
   refine JJ.regionEnd ?_
   refine JJ.keep _ ?_ (hk9 _ (.refl _))
   exact ⟨congrArg (fun b => some (Value.bool b)) (by simp only [hg1_6b, xb0, xb1, xb2, xb3, xb4, xb5, xb6, xb7, xb8, xb9, xb10, xb11]), rfl, rfl, trivial⟩
  ·
   have hg1_6b := hg1_6
   replace hg1_6 := not_f hg1_6
   replace hg1_6b := hg1_6
   replace hg1_6 := of_decide_eq_true hg1_6
   refine JJ.fieldAddr (a' := ⟨b7, 1, none⟩) fo53_1 rg rfl rfl rfl rfl ?_
   refine JJ.loadL (v := .int .i64 (x.n)) ty2 1 rg rfl rfl rfl rfl rfl ?_
   refine JJ.fieldAddr (a' := ⟨b8, 1, none⟩) fo53_1 rg rfl rfl rfl rfl ?_
   refine JJ.loadL (v := .int .i64 (y.n)) ty2 0 rg rfl rfl rfl rfl rfl ?_
   refine JJ.bin rg rfl rfl rfl rfl rfl ?_
   refine JJ.pick (b := false) rg rfl rfl rfl rfl ?_
   refine JJ.move rg rfl rfl rfl ?_
   refine JJ.split 18 rfl (fun hg1_13 => ?_) (fun hg1_13 => ?_)
   ·
    have hg1_13b := hg1_13
    replace hg1_13 := not_t hg1_13
    replace hg1_13b := hg1_13
    replace hg1_13 := of_decide_eq_false hg1_13
    refine JJ.gskip rg rfl rfl ?_
    refine JJ.gskip rg rfl rfl ?_
    refine JJ.gskip rg rfl rfl ?_
    refine JJ.gskip rg rfl rfl ?_
    refine JJ.gskip rg rfl rfl ?_
    refine JJ.pick (b := true) rg rfl rfl rfl rfl ?_
    refine JJ.move rg rfl rfl rfl ?_
    refine JJ.gskip rg rfl rfl ?_
    refine JJ.gskip rg rfl rfl ?_
    refine JJ.gskip rg rfl rfl ?_
    refine JJ.gskip rg rfl rfl ?_
    refine JJ.gskip rg rfl rfl ?_
    refine JJ.gskip rg rfl rfl ?_
    refine JJ.gskip rg rfl rfl ?_
    refine JJ.pick (b := true) rg rfl rfl rfl rfl ?_
    refine JJ.regionEnd ?_
    refine JJ.keep _ ?_ (hk9 _ (.refl _))
    exact ⟨congrArg (fun b => some (Value.bool b)) (by simp only [hg1_6b, hg1_13b, xb0, xb1, xb2, xb3, xb4, xb5, xb6, xb7, xb8, xb9, xb10, xb11]), rfl, rfl, trivial⟩
   ·
    have hg1_13b := hg1_13
    replace hg1_13 := not_f hg1_13
    replace hg1_13b := hg1_13
    replace hg1_13 := of_decide_eq_true hg1_13
    refine JJ.fieldAddr (a' := ⟨b7, 2, none⟩) fo53_2 rg rfl rfl rfl rfl ?_
    refine JJ.loadL (v := .string (x.s)) ty9 1 rg rfl rfl rfl rfl rfl ?_
    refine JJ.fieldAddr (a' := ⟨b8, 2, none⟩) fo53_2 rg rfl rfl rfl rfl ?_
    refine JJ.loadL (v := .string (y.s)) ty9 0 rg rfl rfl rfl rfl rfl ?_
    refine JJ.bin rg rfl rfl rfl rfl rfl ?_
    refine JJ.pick (b := false) rg rfl rfl rfl rfl ?_
    refine JJ.move rg rfl rfl rfl ?_
    refine JJ.split 25 rfl (fun hg1_20 => ?_) (fun hg1_20 => ?_)
    ·
     have hg1_20b := hg1_20
     replace hg1_20 := not_t hg1_20
     replace hg1_20b := hg1_20
     replace hg1_20 := of_decide_eq_false hg1_20
     refine JJ.gskip rg rfl rfl ?_
     refine JJ.gskip rg rfl rfl ?_
     refine JJ.gskip rg rfl rfl ?_
     refine JJ.gskip rg rfl rfl ?_
     refine JJ.gskip rg rfl rfl ?_
     refine JJ.gskip rg rfl rfl ?_
     refine JJ.gskip rg rfl rfl ?_
     refine JJ.pick (b := true) rg rfl rfl rfl rfl ?_
     refine JJ.regionEnd ?_
     refine JJ.keep _ ?_ (hk9 _ (.refl _))
     exact ⟨congrArg (fun b => some (Value.bool b)) (by simp only [hg1_6b, hg1_13b, hg1_20b, xb0, xb1, xb2, xb3, xb4, xb5, xb6, xb7, xb8, xb9, xb10, xb11]), rfl, rfl, trivial⟩
    ·
     have hg1_20b := hg1_20
     replace hg1_20 := not_f hg1_20
     replace hg1_20b := hg1_20
     replace hg1_20 := of_decide_eq_true hg1_20
     refine JJ.fieldAddr (a' := ⟨b7, 3, none⟩) fo53_3 rg rfl rfl rfl rfl ?_
     refine JJ.loadL (v := .slice (A1) ((x.x).length) (cp2)) ty33 1 rg rfl rfl rfl rfl rfl ?_
     refine JJ.lenSlice ss33 rg rfl rfl rfl ?_
     refine JJ.fieldAddr (a' := ⟨b8, 3, none⟩) fo53_3 rg rfl rfl rfl rfl ?_
     refine JJ.loadL (v := .slice (A4) ((y.x).length) (cp5)) ty33 0 rg rfl rfl rfl rfl rfl ?_
     refine JJ.lenSlice ss33 rg rfl rfl rfl ?_
     refine JJ.bin rg rfl rfl rfl rfl rfl ?_
     refine JJ.pick (b := false) rg rfl rfl rfl rfl ?_
     refine JJ.regionEnd ?_
     refine JJ.keep _ ?_ (hk9 _ (.refl _))
     exact ⟨congrArg (fun b => some (Value.bool b)) (by simp only [hg1_6b, hg1_13b, hg1_20b, xb0, xb1, xb2, xb3, xb4, xb5, xb6, xb7, xb8, xb9, xb10, xb11]), rfl, rfl, trivial⟩
 ·
  intro I10 hle11
  refine JJ.cond2 rfl (fun hc1 => ?_) (fun hc1 => ?_)
  ·
   have hc1b := hc1
   refine JJ.seq ?_
   refine JJ.region rfl fun rg => ?_
   refine JJ.assign rg rfl rfl rfl ?_
   refine JJ.regionEnd ?_
   have hF : F_sameX x y = false := by simp only [F_sameX, hc1b, xb0, xb1, xb2, xb3, xb4, xb5, xb6, xb7, xb8, xb9, xb10, xb11]
   refine JJ.ret1 rfl Try.func16 rfl rfl (fun h h_ => ⟨(), trivial, (by rw [hF]), trivial⟩)
  ·
   have hc1b := hc1
   have hlen : x.x.length = y.x.length := by have h9 := hc1b; simp only [Bool.or_eq_false_iff, Bool.not_eq_false', decide_eq_true_eq] at h9; omega
   refine JJ.skip ?_
   refine JJ.seq ?_
   refine JJ.seq ?_
   refine JJ.region rfl fun rg => ?_
   refine JJ.assign rg rfl rfl rfl ?_
   refine JJ.regionEnd ?_
   refine JJ.cut (X := Hp) (fun z => []) (fun z => z) (fun z => [blk b8 (.cells ([.int .i64 (y.op), .int .i64 (y.n), .string (y.s), .slice (A4) ((y.x).length) (cp5)]).toArray 53), blk b7 (.cells ([.int .i64 (x.op), .int .i64 (x.n), .string (x.s), .slice (A1) ((x.x).length) (cp2)]).toArray 53)])
    (fun z => Hp.le (I10) z ∧ F_sameX_l0 y 0 x.x = .inr ()) (fun hk20 => ?_) ?_
   ·
    refine JJ.block ?_
    refine JJ.induct (X := Nat × Hp) (fun z => [(2, .pointer (some ⟨b7, 0, none⟩)), (3, .pointer (some ⟨b8, 0, none⟩)), (5, .int .i64 (((z.1 : Nat) : Int)))]) (fun z => z.2) (fun z => [blk b8 (.cells ([.int .i64 (y.op), .int .i64 (y.n), .string (y.s), .slice (A4) ((y.x).length) (cp5)]).toArray 53), blk b7 (.cells ([.int .i64 (x.op), .int .i64 (x.n), .string (x.s), .slice (A1) ((x.x).length) (cp2)]).toArray 53)])
     (fun z => z.1 ≤ (x.x).length ∧ Hp.le (I10) z.2 ∧ F_sameX_l0 y 0 x.x = F_sameX_l0 y z.1 (List.drop z.1 x.x)) (fun z => (x.x).length - z.1)
     (0, I10) ⟨Nat.zero_le _, .refl _, by rw [List.drop_zero]⟩
     (fun h => JJ.keep _ (by repeat (first | exact trivial | refine ⟨rfl, ?_⟩)) h) ?_
    rintro ⟨i13, I15⟩ ⟨hi18, hle16, hsp17⟩ ih19
    try dsimp only at hi18 hle16 hsp17 ih19 ⊢
    rcases Nat.lt_or_ge i13 ((x.x).length) with hlt_i13 | hge_i13
    ·
     obtain ⟨d14, hd_d14⟩ : ∃ d14, (x.x)[i13]? = some d14 := ⟨_, List.getElem?_eq_getElem hlt_i13⟩
     have hdr_i13 : List.drop i13 x.x = d14 :: List.drop (i13 + 1) x.x := drop_cons hd_d14
     have hz21 := Ex.szl_mem (List.mem_of_getElem? hd_d14)
     have hy22 := Ex.sz_eq d14
     have hl23 := Ex.szl_len (d14).x
     refine JJ.seq ?_
     refine JJ.seq ?_
     refine JJ.region rfl fun rg => ?_
     refine JJ.move rg rfl rfl rfl ?_
     refine JJ.fieldAddr (a' := ⟨b7, 3, none⟩) fo53_3 rg rfl rfl rfl rfl ?_
     refine JJ.loadL (v := .slice (A1) ((x.x).length) (cp2)) ty33 1 rg rfl rfl rfl rfl rfl ?_
     refine JJ.lenSlice ss33 rg rfl rfl rfl ?_
     refine JJ.bin (v := .bool true) rg rfl rfl rfl rfl (congrArg (fun b => some (Value.bool b)) (decide_eq_true (by omega))) ?_
     refine JJ.regionEnd ?_
     refine JJ.cond (b := true) rfl ?_
     refine JJ.skip ?_
     refine JJ.seq ?_
     refine JJ.block ?_
     refine JJ.seq ?_
     obtain ⟨a24, cs25, hA26, hcap27, -, hre28, hrow29⟩ := RSl.get (hx3.mono (hle11.trans hle16)) hd_d14
     have hlthd_d14 := (List.getElem?_eq_some_iff.1 hd_d14).1
     obtain ⟨A30, cp31, rfl, hx32⟩ := RX.open hre28
     have hd33 := getD_some (l := y.x) (i := i13) (by omega)
     have hz34 := Ex.szl_mem (List.mem_of_getElem? hd33)
     have hy35 := Ex.sz_eq (y.x.getD i13 default)
     have hl36 := Ex.szl_len ((y.x.getD i13 default)).x
     obtain ⟨a37, cs38, hA39, hcap40, -, hre41, hrow42⟩ := RSl.get (hx6.mono (hle11.trans hle16)) hd33
     have hlthd33 := (List.getElem?_eq_some_iff.1 hd33).1
     obtain ⟨A43, cp44, rfl, hx45⟩ := RX.open hre41
     refine JJ.draw (m := 12) [(2, .pointer (some ⟨b7, 0, none⟩)), (3, .pointer (some ⟨b8, 0, none⟩)), (5, .int .i64 (((i13 : Nat) : Int)))]
      (fun i => match i with | 0 => fun _ v => v = .pointer (some ⟨b7, 3, none⟩) | 1 => fun _ v => v = .slice (A1) ((x.x).length) (cp2) | 2 => fun _ v => v = .int .i64 (((i13 : Nat) : Int)) | 3 => fun _ v => v = .pointer (some (a24.add (i13 * 4))) | 4 => fun _ v => v = .agg #[.int .i64 (d14.op), .int .i64 (d14.n), .string (d14.s), .slice (A30) ((d14.x).length) (cp31)] | 5 => fun _ v => v = .pointer (some ⟨b8, 3, none⟩) | 6 => fun _ v => v = .slice (A4) ((y.x).length) (cp5) | 7 => fun _ v => v = .int .i64 (((i13 : Nat) : Int)) | 8 => fun _ v => v = .pointer (some (a37.add (i13 * 4))) | 9 => fun _ v => v = .agg #[.int .i64 (((y.x.getD i13 default)).op), .int .i64 (((y.x.getD i13 default)).n), .string (((y.x.getD i13 default)).s), .slice (A43) ((((y.x.getD i13 default)).x).length) (cp44)] | 10 => fun _ v => v = .bool (F_sameX d14 (y.x.getD i13 default)) | 11 => fun _ v => v = .bool (!(F_sameX d14 (y.x.getD i13 default))) | _ => fun _ _ => False) mx rfl rfl ?_ (by repeat (first | exact trivial | refine ⟨rfl, ?_⟩)) (fun rg => ?_) (fun rg => ?_)
     ·
      rintro (_ | _ | _ | _ | _ | _ | _ | _ | _ | _ | _ | _ | i) I1_ I2_ v l h
      · exact h
      · exact h
      · exact h
      · exact h
      · exact h
      · exact h
      · exact h
      · exact h
      · exact h
      · exact h
      · exact h
      · exact h
      · exact h
     ·
      refine ⟨?_, ?_, ?_, ?_, ?_, ?_, ?_, ?_, ?_, ?_, ?_, ?_, trivial⟩
      ·
       intro is E2 I2_ hle_ hb hd kk_
       obtain ⟨hb2, hb3, hb5, -⟩ := hb
       refine JJ.fieldAddr (a' := ⟨b7, 3, none⟩) fo53_3 rg rfl rfl hb2 rfl (kk_ _ _ (.refl _) rfl)
      ·
       intro is E2 I2_ hle_ hb hd kk_
       obtain ⟨hb2, hb3, hb5, -⟩ := hb
       obtain ⟨d0, v0, e0, g0, s0⟩ := hd 0 (by decide)
       cases e0
       subst s0
       refine JJ.loadL (v := .slice (A1) ((x.x).length) (cp2)) ty33 1 rg rfl rfl g0 rfl rfl (kk_ _ _ (.refl _) rfl)
      ·
       intro is E2 I2_ hle_ hb hd kk_
       obtain ⟨hb2, hb3, hb5, -⟩ := hb
       refine JJ.move rg rfl rfl hb5 (kk_ _ _ (.refl _) rfl)
      ·
       intro is E2 I2_ hle_ hb hd kk_
       obtain ⟨hb2, hb3, hb5, -⟩ := hb
       obtain ⟨d1, v1, e1, g1, s1⟩ := hd 1 (by decide)
       cases e1
       subst s1
       obtain ⟨d2, v2, e2, g2, s2⟩ := hd 2 (by decide)
       cases e2
       subst s2
       refine JJ.indexAddrA hA26 (a' := a24.add (i13 * 4)) eo33 rg rfl rfl g1 g2 (by omega) (by omega) rfl (kk_ _ _ (.refl _) rfl)
      ·
       intro is E2 I2_ hle_ hb hd kk_
       obtain ⟨hb2, hb3, hb5, -⟩ := hb
       obtain ⟨d3, v3, e3, g3, s3⟩ := hd 3 (by decide)
       cases e3
       subst s3
       refine JJ.loadI (v := .agg #[.int .i64 (d14.op), .int .i64 (d14.n), .string (d14.s), .slice (A30) ((d14.x).length) (cp31)]) ty53 rg rfl rfl g3 (hrow29.mono hle_) rfl (kk_ _ _ (.refl _) rfl)
      ·
       intro is E2 I2_ hle_ hb hd kk_
       obtain ⟨hb2, hb3, hb5, -⟩ := hb
       refine JJ.fieldAddr (a' := ⟨b8, 3, none⟩) fo53_3 rg rfl rfl hb3 rfl (kk_ _ _ (.refl _) rfl)
      ·
       intro is E2 I2_ hle_ hb hd kk_
       obtain ⟨hb2, hb3, hb5, -⟩ := hb
       obtain ⟨d5, v5, e5, g5, s5⟩ := hd 5 (by decide)
       cases e5
       subst s5
       refine JJ.loadL (v := .slice (A4) ((y.x).length) (cp5)) ty33 0 rg rfl rfl g5 rfl rfl (kk_ _ _ (.refl _) rfl)
      ·
       intro is E2 I2_ hle_ hb hd kk_
       obtain ⟨hb2, hb3, hb5, -⟩ := hb
       refine JJ.move rg rfl rfl hb5 (kk_ _ _ (.refl _) rfl)
      ·
       intro is E2 I2_ hle_ hb hd kk_
       obtain ⟨hb2, hb3, hb5, -⟩ := hb
       obtain ⟨d6, v6, e6, g6, s6⟩ := hd 6 (by decide)
       cases e6
       subst s6
       obtain ⟨d7, v7, e7, g7, s7⟩ := hd 7 (by decide)
       cases e7
       subst s7
       refine JJ.indexAddrA hA39 (a' := a37.add (i13 * 4)) eo33 rg rfl rfl g6 g7 (by omega) (by omega) rfl (kk_ _ _ (.refl _) rfl)
      ·
       intro is E2 I2_ hle_ hb hd kk_
       obtain ⟨hb2, hb3, hb5, -⟩ := hb
       obtain ⟨d8, v8, e8, g8, s8⟩ := hd 8 (by decide)
       cases e8
       subst s8
       refine JJ.loadI (v := .agg #[.int .i64 (((y.x.getD i13 default)).op), .int .i64 (((y.x.getD i13 default)).n), .string (((y.x.getD i13 default)).s), .slice (A43) ((((y.x.getD i13 default)).x).length) (cp44)]) ty53 rg rfl rfl g8 (hrow42.mono hle_) rfl (kk_ _ _ (.refl _) rfl)
      ·
       intro is E2 I2_ hle_ hb hd kk_
       obtain ⟨hb2, hb3, hb5, -⟩ := hb
       obtain ⟨d4, v4, e4, g4, s4⟩ := hd 4 (by decide)
       cases e4
       subst s4
       obtain ⟨d9, v9, e9, g9, s9⟩ := hd 9 (by decide)
       cases e9
       subst s9
       refine JJ.callp bo16 rg rfl rfl rfl (evL_cons g4 (evL_cons g9 rfl)) (ih _ _ d14 (hre28.mono hle_) _ ((y.x.getD i13 default)) (hre41.mono hle_) (by first | assumption | omega) (by first | assumption | omega) (by omega)) fun _ I48 hle49 _ => (kk_ _ _ hle49 rfl)
      ·
       intro is E2 I2_ hle_ hb hd kk_
       obtain ⟨hb2, hb3, hb5, -⟩ := hb
       obtain ⟨d10, v10, e10, g10, s10⟩ := hd 10 (by decide)
       cases e10
       subst s10
       refine JJ.not rg rfl rfl g10 (kk_ _ _ (.refl _) rfl)
     intro vs I51 hle50 hs_
     obtain ⟨hv0, hv1, hv2, hv3, hv4, hv5, hv6, hv7, hv8, hv9, hv10, hv11, -⟩ := hs_
     refine JJ.keep [(2, .pointer (some ⟨b7, 0, none⟩)), (3, .pointer (some ⟨b8, 0, none⟩)), (5, .int .i64 (((i13 : Nat) : Int))), (52, .bool (!(F_sameX d14 (y.x.getD i13 default))))] ⟨rfl, rfl, rfl, congrArg some hv11, trivial⟩ ?_
     refine JJ.regionEnd ?_
     refine JJ.cond2 rfl (fun hc6 => ?_) (fun hc6 => ?_)
     ·
      have hc6b := hc6
      replace hc6 := not_t hc6
      replace hc6b := hc6
      refine JJ.seq ?_
      refine JJ.region rfl fun rg => ?_
      refine JJ.assign rg rfl rfl rfl ?_
      refine JJ.regionEnd ?_
      have hE52 : F_sameX_l0 y 0 x.x = .inl false := by rw [hsp17, hdr_i13]; simp only [F_sameX_l0, hc6b, xb0, xb1, xb2, xb3, xb4, xb5, xb6, xb7, xb8, xb9, xb10, xb11]
      have hF : F_sameX x y = false := by simp only [F_sameX, hc1b, hE52, xb0, xb1, xb2, xb3, xb4, xb5, xb6, xb7, xb8, xb9, xb10, xb11]
      refine JJ.ret1 rfl Try.func16 rfl rfl (fun h h_ => ⟨(), trivial, (by rw [hF]), trivial⟩)
     ·
      have hc6b := hc6
      replace hc6 := not_f hc6
      replace hc6b := hc6
      refine JJ.skip ?_
      refine JJ.inBlock ?_
      refine JJ.region rfl fun rg => ?_
      refine JJ.move rg rfl rfl rfl ?_
      refine JJ.binI (z := ((i13 + 1 : Nat) : Int)) rg rfl rfl rfl rfl rfl (wrap_to (by omega) (by omega) (by omega)) ?_
      refine JJ.assign rg rfl rfl rfl ?_
      refine JJ.regionEnd ?_
      have hnx : F_sameX_l0 y 0 x.x = F_sameX_l0 y (i13 + 1) (List.drop (i13 + 1) x.x) := by rw [hsp17, hdr_i13]; simp only [F_sameX_l0, hc6b, xb0, xb1, xb2, xb3, xb4, xb5, xb6, xb7, xb8, xb9, xb10, xb11]
      refine JJ.keep _ ?_ (ih19 (i13 + 1, I51) ⟨hlt_i13, (hle16.trans hle50), hnx⟩ (by dsimp only; omega))
      repeat (first | exact trivial | refine ⟨rfl, ?_⟩)
    ·
     have heq_i13 : i13 = (x.x).length := by omega
     have hdr_i13 : List.drop i13 x.x = [] := by rw [heq_i13]; exact List.drop_length
     refine JJ.seq ?_
     refine JJ.seq ?_
     refine JJ.region rfl fun rg => ?_
     refine JJ.move rg rfl rfl rfl ?_
     refine JJ.fieldAddr (a' := ⟨b7, 3, none⟩) fo53_3 rg rfl rfl rfl rfl ?_
     refine JJ.loadL (v := .slice (A1) ((x.x).length) (cp2)) ty33 1 rg rfl rfl rfl rfl rfl ?_
     refine JJ.lenSlice ss33 rg rfl rfl rfl ?_
     refine JJ.bin (v := .bool false) rg rfl rfl rfl rfl (congrArg (fun b => some (Value.bool b)) (decide_eq_false (by omega))) ?_
     refine JJ.regionEnd ?_
     refine JJ.cond (b := false) rfl ?_
     refine JJ.exit rfl ?_
     have hE : F_sameX_l0 y 0 x.x = .inr () := by rw [hsp17, hdr_i13]; simp only [F_sameX_l0, xb0, xb1, xb2, xb3, xb4, xb5, xb6, xb7, xb8, xb9, xb10, xb11]
     refine JJ.keep _ ?_ (hk20 (I15) ⟨hle16, hE⟩)
     repeat (first | exact trivial | refine ⟨rfl, ?_⟩)
   ·
    rintro I53 ⟨hle54, hE55⟩
    try dsimp only at hle54 hE55 ⊢
    refine JJ.seq ?_
    refine JJ.region rfl fun rg => ?_
    refine JJ.assign rg rfl rfl rfl ?_
    refine JJ.regionEnd ?_
    have hF : F_sameX x y = true := by simp only [F_sameX, hc1b, hE55, xb0, xb1, xb2, xb3, xb4, xb5, xb6, xb7, xb8, xb9, xb10, xb11]
    refine JJ.ret1 rfl Try.func16 rfl rfl (fun h h_ => ⟨(), trivial, (by rw [hF]), trivial⟩)
theorem sameX (I : Hp) (cs_x : List Value) (x : Ex) (h_x : RX I cs_x x) (cs_y : List Value) (y : Ex) (h_y : RX I cs_y y) (hz : x.sz ≤ 4294967296) (hz2 : y.sz ≤ 4294967296) : Fn Try.prog 16 #[.agg (cs_x).toArray, .agg (cs_y).toArray] I [] (Ret (X := Unit) (fun x_ I' => True) (fun x_ => .bool (F_sameX x y)) fun _ => []) := sameX_rec _ I cs_x x h_x cs_y y h_y hz hz2 (Nat.lt_succ_self _)
def F_sameS_l0 (y : St) : Nat → List Ex → Sum (Bool) (Unit)
  | _, [] => .inr ()
  | i25, d26 :: LREST => bif !(F_sameX d26 (y.e.getD i25 default)) then (.inl false) else (F_sameS_l0 y (i25 + 1) LREST)
mutual
def F_sameS (x : St) (y : St) : Bool :=
  bif ((!decide ((x.op : Int) = y.op)) || (((!decide (x.s.data.toList = y.s.data.toList)) || (((!decide ((x.n : Int) = y.n)) || (((!(x.commit == y.commit)) || (!decide (((((x.e).length : Nat) : Int) : Int) = (((y.e).length : Nat) : Int)))))))))) then (false) else ((match F_sameS_l0 y 0 x.e with | .inl r_ => r_ | .inr () => ((F_sameB x.body y.body) && (F_sameB x.els y.els))))
  termination_by 3 * x.sz
  decreasing_by all_goals ((try simp only [Ex.szl, Ex.sz_eq, St.szl, St.sz_eq]); omega)
def F_sameB_l0 (b : List St) : Nat → List St → Sum (Bool) (Unit)
  | _, [] => .inr ()
  | i2, d3 :: LREST => bif !(F_sameS d3 (b.getD i2 default)) then (.inl false) else (F_sameB_l0 b (i2 + 1) LREST)
  termination_by _ l => 3 * St.szl l + 1
  decreasing_by all_goals ((try simp only [Ex.szl, Ex.sz_eq, St.szl, St.sz_eq]); omega)
def F_sameB (a : List St) (b : List St) : Bool :=
  bif !decide (((((a).length : Nat) : Int) : Int) = (((b).length : Nat) : Int)) then (false) else ((match F_sameB_l0 b 0 a with | .inl r_ => r_ | .inr () => true))
  termination_by 3 * St.szl a + 2
  decreasing_by all_goals ((try simp only [Ex.szl, Ex.sz_eq, St.szl, St.sz_eq]); omega)
end
theorem sameS_of (I : Hp) (cs_x : List Value) (x : St) (h_x : RT I cs_x x) (cs_y : List Value) (y : St) (h_y : RT I cs_y y) (hz : x.sz ≤ 4294967296) (hz2 : y.sz ≤ 4294967296) (N : Nat) (ih : ∀ (I : Hp) (A_a : Option Addr) (cp_a : Nat) (a : List St) (h_a : RTs I A_a (a).length cp_a a) (n_a : (a).length ≤ 4294967296) (A_b : Option Addr) (cp_b : Nat) (b : List St) (h_b : RTs I A_b (b).length cp_b b) (n_b : (b).length ≤ 4294967296) (hz : St.szl a ≤ 4294967296) (hz2 : St.szl b ≤ 4294967296) (hN : 2 * St.szl a < N), Fn Try.prog 15 #[.slice (A_a) ((a).length) (cp_a), .slice (A_b) ((b).length) (cp_b)] I [] (Ret (X := Unit) (fun x_ I' => True) (fun x_ => .bool (F_sameB a b)) fun _ => [])) (hN : 2 * x.sz - 1 ≤ N) : Fn Try.prog 36 #[.agg (cs_x).toArray, .agg (cs_y).toArray] I [] (Ret (X := Unit) (fun x_ I' => True) (fun x_ => .bool (F_sameS x y)) fun _ => []) := by
 have hy_x := x.sz_eq
 have hle_x := Ex.szl_len x.e
 have hlbody_x := St.szl_len x.body
 have hlels_x := St.szl_len x.els
 have hy_y := y.sz_eq
 have hle_y := Ex.szl_len y.e
 have hlbody_y := St.szl_len y.body
 have hlels_y := St.szl_len y.els
 obtain ⟨A1, cp2, A4, cp5, A7, cp8, rfl, hx3, hx6, hx9⟩ := RT.open h_x
 obtain ⟨A10, cp11, A13, cp14, A16, cp17, rfl, hx12, hx15, hx18⟩ := RT.open h_y
 refine Fn.of (args := [_, _]) Try.func36 rfl rfl ?_
 refine JJ.seq ?_
 refine JJ.region rfl fun rg => ?_
 refine JJ.box (cs := [.int .i64 (x.op), .string (x.s), .int .i64 (x.n), .slice (A1) ((x.e).length) (cp2), .slice (A4) ((x.body).length) (cp5), .slice (A7) ((x.els).length) (cp8), .bool (x.commit)]) rg rfl rfl rfl rfl fun b19 => ?_
 refine JJ.box (cs := [.int .i64 (y.op), .string (y.s), .int .i64 (y.n), .slice (A10) ((y.e).length) (cp11), .slice (A13) ((y.body).length) (cp14), .slice (A16) ((y.els).length) (cp17), .bool (y.commit)]) rg rfl rfl rfl rfl fun b20 => ?_
 refine JJ.assign rg rfl rfl rfl ?_
 refine JJ.regionEnd ?_
 refine JJ.seq ?_
 refine JJ.seq ?_
 refine JJ.cut (X := Hp) (fun _ => [(40, .bool (((!decide ((x.op : Int) = y.op)) || (((!decide (x.s.data.toList = y.s.data.toList)) || (((!decide ((x.n : Int) = y.n)) || (((!(x.commit == y.commit)) || (!decide (((((x.e).length : Nat) : Int) : Int) = (((y.e).length : Nat) : Int)))))))))))), (2, .pointer (some ⟨b19, 0, none⟩)), (3, .pointer (some ⟨b20, 0, none⟩))]) (fun x => x) (fun _ => [blk b20 (.cells ([.int .i64 (y.op), .string (y.s), .int .i64 (y.n), .slice (A10) ((y.e).length) (cp11), .slice (A13) ((y.body).length) (cp14), .slice (A16) ((y.els).length) (cp17), .bool (y.commit)]).toArray 35), blk b19 (.cells ([.int .i64 (x.op), .string (x.s), .int .i64 (x.n), .slice (A1) ((x.e).length) (cp2), .slice (A4) ((x.body).length) (cp5), .slice (A7) ((x.els).length) (cp8), .bool (x.commit)]).toArray 35)]) (fun x => Hp.le (I) x) (fun hk21 => ?_) ?_
 ·
  refine JJ.region rfl fun rg => ?_
  refine JJ.fieldAddr (a' := ⟨b19, 0, none⟩) fo35_0 rg rfl rfl rfl rfl ?_
  refine JJ.loadL (v := .int .i64 (x.op)) ty3 1 rg rfl rfl rfl rfl rfl ?_
  refine JJ.fieldAddr (a' := ⟨b20, 0, none⟩) fo35_0 rg rfl rfl rfl rfl ?_
  refine JJ.loadL (v := .int .i64 (y.op)) ty3 0 rg rfl rfl rfl rfl rfl ?_
  refine JJ.bin rg rfl rfl rfl rfl rfl ?_
  refine JJ.move rg rfl rfl rfl ?_
  refine JJ.split 11 rfl (fun hg1_6 => ?_) (fun hg1_6 => ?_)
  ·
   have hg1_6b := hg1_6
   replace hg1_6 := not_t hg1_6
   replace hg1_6b := hg1_6
   replace hg1_6 := of_decide_eq_false hg1_6
   refine JJ.gskip rg rfl rfl ?_
   refine JJ.gskip rg rfl rfl ?_
   refine JJ.gskip rg rfl rfl ?_
   refine JJ.gskip rg rfl rfl ?_
   refine JJ.gskip rg rfl rfl ?_
   refine JJ.pick (b := true) rg rfl rfl rfl rfl ?_
   refine JJ.move rg rfl rfl rfl ?_
   refine JJ.gskip rg rfl rfl ?_
   refine JJ.gskip rg rfl rfl ?_
   refine JJ.gskip rg rfl rfl ?_
   refine JJ.gskip rg rfl rfl ?_
   refine JJ.gskip rg rfl rfl ?_
   refine JJ.pick (b := true) rg rfl rfl rfl rfl ?_
   refine JJ.move rg rfl rfl rfl ?_
   refine JJ.gskip rg rfl rfl ?_
   refine JJ.gskip rg rfl rfl ?_
   refine JJ.gskip rg rfl rfl ?_
   refine JJ.gskip rg rfl rfl ?_
   refine JJ.gskip rg rfl rfl ?_
   refine JJ.pick (b := true) rg rfl rfl rfl rfl ?_
   refine JJ.move rg rfl rfl rfl ?_
   refine JJ.gskip rg rfl rfl ?_
   refine JJ.gskip rg rfl rfl ?_
   refine JJ.gskip rg rfl rfl ?_
   refine JJ.gskip rg rfl rfl ?_
   refine JJ.gskip rg rfl rfl ?_
   refine JJ.gskip rg rfl rfl ?_
   refine JJ.gskip rg rfl rfl ?_
   refine JJ.pick (b := true) rg rfl rfl rfl rfl ?_
   refine JJ.regionEnd ?_
   refine JJ.keep _ ?_ (hk21 _ (.refl _))
   exact ⟨congrArg (fun b => some (Value.bool b)) (by simp only [hg1_6b, xb0, xb1, xb2, xb3, xb4, xb5, xb6, xb7, xb8, xb9, xb10, xb11]), rfl, rfl, trivial⟩
  ·
   have hg1_6b := hg1_6
   replace hg1_6 := not_f hg1_6
   replace hg1_6b := hg1_6
   replace hg1_6 := of_decide_eq_true hg1_6
   refine JJ.fieldAddr (a' := ⟨b19, 1, none⟩) fo35_1 rg rfl rfl rfl rfl ?_
   refine JJ.loadL (v := .string (x.s)) ty9 1 rg rfl rfl rfl rfl rfl ?_
   refine JJ.fieldAddr (a' := ⟨b20, 1, none⟩) fo35_1 rg rfl rfl rfl rfl ?_
   refine JJ.loadL (v := .string (y.s)) ty9 0 rg rfl rfl rfl rfl rfl ?_
   refine JJ.bin rg rfl rfl rfl rfl rfl ?_
   refine JJ.pick (b := false) rg rfl rfl rfl rfl ?_
   refine JJ.move rg rfl rfl rfl ?_
   refine JJ.split 18 rfl (fun hg1_13 => ?_) (fun hg1_13 => ?_)
   ·
    have hg1_13b := hg1_13
    replace hg1_13 := not_t hg1_13
    replace hg1_13b := hg1_13
    replace hg1_13 := of_decide_eq_false hg1_13
    refine JJ.gskip rg rfl rfl ?_
    refine JJ.gskip rg rfl rfl ?_
    refine JJ.gskip rg rfl rfl ?_
    refine JJ.gskip rg rfl rfl ?_
    refine JJ.gskip rg rfl rfl ?_
    refine JJ.pick (b := true) rg rfl rfl rfl rfl ?_
    refine JJ.move rg rfl rfl rfl ?_
    refine JJ.gskip rg rfl rfl ?_
    refine JJ.gskip rg rfl rfl ?_
    refine JJ.gskip rg rfl rfl ?_
    refine JJ.gskip rg rfl rfl ?_
    refine JJ.gskip rg rfl rfl ?_
    refine JJ.pick (b := true) rg rfl rfl rfl rfl ?_
    refine JJ.move rg rfl rfl rfl ?_
    refine JJ.gskip rg rfl rfl ?_
    refine JJ.gskip rg rfl rfl ?_
    refine JJ.gskip rg rfl rfl ?_
    refine JJ.gskip rg rfl rfl ?_
    refine JJ.gskip rg rfl rfl ?_
    refine JJ.gskip rg rfl rfl ?_
    refine JJ.gskip rg rfl rfl ?_
    refine JJ.pick (b := true) rg rfl rfl rfl rfl ?_
    refine JJ.regionEnd ?_
    refine JJ.keep _ ?_ (hk21 _ (.refl _))
    exact ⟨congrArg (fun b => some (Value.bool b)) (by simp only [hg1_6b, hg1_13b, xb0, xb1, xb2, xb3, xb4, xb5, xb6, xb7, xb8, xb9, xb10, xb11]), rfl, rfl, trivial⟩
   ·
    have hg1_13b := hg1_13
    replace hg1_13 := not_f hg1_13
    replace hg1_13b := hg1_13
    replace hg1_13 := of_decide_eq_true hg1_13
    refine JJ.fieldAddr (a' := ⟨b19, 2, none⟩) fo35_2 rg rfl rfl rfl rfl ?_
    refine JJ.loadL (v := .int .i64 (x.n)) ty2 1 rg rfl rfl rfl rfl rfl ?_
    refine JJ.fieldAddr (a' := ⟨b20, 2, none⟩) fo35_2 rg rfl rfl rfl rfl ?_
    refine JJ.loadL (v := .int .i64 (y.n)) ty2 0 rg rfl rfl rfl rfl rfl ?_
    refine JJ.bin rg rfl rfl rfl rfl rfl ?_
    refine JJ.pick (b := false) rg rfl rfl rfl rfl ?_
    refine JJ.move rg rfl rfl rfl ?_
    refine JJ.split 25 rfl (fun hg1_20 => ?_) (fun hg1_20 => ?_)
    ·
     have hg1_20b := hg1_20
     replace hg1_20 := not_t hg1_20
     replace hg1_20b := hg1_20
     replace hg1_20 := of_decide_eq_false hg1_20
     refine JJ.gskip rg rfl rfl ?_
     refine JJ.gskip rg rfl rfl ?_
     refine JJ.gskip rg rfl rfl ?_
     refine JJ.gskip rg rfl rfl ?_
     refine JJ.gskip rg rfl rfl ?_
     refine JJ.pick (b := true) rg rfl rfl rfl rfl ?_
     refine JJ.move rg rfl rfl rfl ?_
     refine JJ.gskip rg rfl rfl ?_
     refine JJ.gskip rg rfl rfl ?_
     refine JJ.gskip rg rfl rfl ?_
     refine JJ.gskip rg rfl rfl ?_
     refine JJ.gskip rg rfl rfl ?_
     refine JJ.gskip rg rfl rfl ?_
     refine JJ.gskip rg rfl rfl ?_
     refine JJ.pick (b := true) rg rfl rfl rfl rfl ?_
     refine JJ.regionEnd ?_
     refine JJ.keep _ ?_ (hk21 _ (.refl _))
     exact ⟨congrArg (fun b => some (Value.bool b)) (by simp only [hg1_6b, hg1_13b, hg1_20b, xb0, xb1, xb2, xb3, xb4, xb5, xb6, xb7, xb8, xb9, xb10, xb11]), rfl, rfl, trivial⟩
    ·
     have hg1_20b := hg1_20
     replace hg1_20 := not_f hg1_20
     replace hg1_20b := hg1_20
     replace hg1_20 := of_decide_eq_true hg1_20
     refine JJ.fieldAddr (a' := ⟨b19, 6, none⟩) fo35_6 rg rfl rfl rfl rfl ?_
     refine JJ.loadL (v := .bool (x.commit)) ty4 1 rg rfl rfl rfl rfl rfl ?_
     refine JJ.fieldAddr (a' := ⟨b20, 6, none⟩) fo35_6 rg rfl rfl rfl rfl ?_
     refine JJ.loadL (v := .bool (y.commit)) ty4 0 rg rfl rfl rfl rfl rfl ?_
     refine JJ.neBool ib4 rg rfl rfl rfl rfl ?_
     refine JJ.pick (b := false) rg rfl rfl rfl rfl ?_
     refine JJ.move rg rfl rfl rfl ?_
     refine JJ.split 32 rfl (fun hg1_27 => ?_) (fun hg1_27 => ?_)
     ·
      have hg1_27b := hg1_27
      replace hg1_27 := not_t hg1_27
      replace hg1_27b := hg1_27
      refine JJ.gskip rg rfl rfl ?_
      refine JJ.gskip rg rfl rfl ?_
      refine JJ.gskip rg rfl rfl ?_
      refine JJ.gskip rg rfl rfl ?_
      refine JJ.gskip rg rfl rfl ?_
      refine JJ.gskip rg rfl rfl ?_
      refine JJ.gskip rg rfl rfl ?_
      refine JJ.pick (b := true) rg rfl rfl rfl rfl ?_
      refine JJ.regionEnd ?_
      refine JJ.keep _ ?_ (hk21 _ (.refl _))
      exact ⟨congrArg (fun b => some (Value.bool b)) (by simp only [hg1_6b, hg1_13b, hg1_20b, hg1_27b, xb0, xb1, xb2, xb3, xb4, xb5, xb6, xb7, xb8, xb9, xb10, xb11]), rfl, rfl, trivial⟩
     ·
      have hg1_27b := hg1_27
      replace hg1_27 := not_f hg1_27
      replace hg1_27b := hg1_27
      refine JJ.fieldAddr (a' := ⟨b19, 3, none⟩) fo35_3 rg rfl rfl rfl rfl ?_
      refine JJ.loadL (v := .slice (A1) ((x.e).length) (cp2)) ty33 1 rg rfl rfl rfl rfl rfl ?_
      refine JJ.lenSlice ss33 rg rfl rfl rfl ?_
      refine JJ.fieldAddr (a' := ⟨b20, 3, none⟩) fo35_3 rg rfl rfl rfl rfl ?_
      refine JJ.loadL (v := .slice (A10) ((y.e).length) (cp11)) ty33 0 rg rfl rfl rfl rfl rfl ?_
      refine JJ.lenSlice ss33 rg rfl rfl rfl ?_
      refine JJ.bin rg rfl rfl rfl rfl rfl ?_
      refine JJ.pick (b := false) rg rfl rfl rfl rfl ?_
      refine JJ.regionEnd ?_
      refine JJ.keep _ ?_ (hk21 _ (.refl _))
      exact ⟨congrArg (fun b => some (Value.bool b)) (by simp only [hg1_6b, hg1_13b, hg1_20b, hg1_27b, xb0, xb1, xb2, xb3, xb4, xb5, xb6, xb7, xb8, xb9, xb10, xb11]), rfl, rfl, trivial⟩
 ·
  intro I22 hle23
  refine JJ.cond2 rfl (fun hc1 => ?_) (fun hc1 => ?_)
  ·
   have hc1b := hc1
   refine JJ.seq ?_
   refine JJ.region rfl fun rg => ?_
   refine JJ.assign rg rfl rfl rfl ?_
   refine JJ.regionEnd ?_
   have hF : F_sameS x y = false := by simp only [F_sameS, hc1b, xb0, xb1, xb2, xb3, xb4, xb5, xb6, xb7, xb8, xb9, xb10, xb11]
   refine JJ.ret1 rfl Try.func36 rfl rfl (fun h h_ => ⟨(), trivial, (by rw [hF]), trivial⟩)
  ·
   have hc1b := hc1
   have hlen : x.e.length = y.e.length := by have h9 := hc1b; simp only [Bool.or_eq_false_iff, Bool.not_eq_false', decide_eq_true_eq] at h9; omega
   refine JJ.skip ?_
   refine JJ.seq ?_
   refine JJ.seq ?_
   refine JJ.region rfl fun rg => ?_
   refine JJ.assign rg rfl rfl rfl ?_
   refine JJ.regionEnd ?_
   refine JJ.cut (X := Hp) (fun z => [(2, .pointer (some ⟨b19, 0, none⟩)), (3, .pointer (some ⟨b20, 0, none⟩))]) (fun z => z) (fun z => [blk b20 (.cells ([.int .i64 (y.op), .string (y.s), .int .i64 (y.n), .slice (A10) ((y.e).length) (cp11), .slice (A13) ((y.body).length) (cp14), .slice (A16) ((y.els).length) (cp17), .bool (y.commit)]).toArray 35), blk b19 (.cells ([.int .i64 (x.op), .string (x.s), .int .i64 (x.n), .slice (A1) ((x.e).length) (cp2), .slice (A4) ((x.body).length) (cp5), .slice (A7) ((x.els).length) (cp8), .bool (x.commit)]).toArray 35)])
    (fun z => Hp.le (I22) z ∧ F_sameS_l0 y 0 x.e = .inr ()) (fun hk32 => ?_) ?_
   ·
    refine JJ.block ?_
    refine JJ.induct (X := Nat × Hp) (fun z => [(2, .pointer (some ⟨b19, 0, none⟩)), (3, .pointer (some ⟨b20, 0, none⟩)), (5, .int .i64 (((z.1 : Nat) : Int)))]) (fun z => z.2) (fun z => [blk b20 (.cells ([.int .i64 (y.op), .string (y.s), .int .i64 (y.n), .slice (A10) ((y.e).length) (cp11), .slice (A13) ((y.body).length) (cp14), .slice (A16) ((y.els).length) (cp17), .bool (y.commit)]).toArray 35), blk b19 (.cells ([.int .i64 (x.op), .string (x.s), .int .i64 (x.n), .slice (A1) ((x.e).length) (cp2), .slice (A4) ((x.body).length) (cp5), .slice (A7) ((x.els).length) (cp8), .bool (x.commit)]).toArray 35)])
     (fun z => z.1 ≤ (x.e).length ∧ Hp.le (I22) z.2 ∧ F_sameS_l0 y 0 x.e = F_sameS_l0 y z.1 (List.drop z.1 x.e)) (fun z => (x.e).length - z.1)
     (0, I22) ⟨Nat.zero_le _, .refl _, by rw [List.drop_zero]⟩
     (fun h => JJ.keep _ (by repeat (first | exact trivial | refine ⟨rfl, ?_⟩)) h) ?_
    rintro ⟨i25, I27⟩ ⟨hi30, hle28, hsp29⟩ ih31
    try dsimp only at hi30 hle28 hsp29 ih31 ⊢
    rcases Nat.lt_or_ge i25 ((x.e).length) with hlt_i25 | hge_i25
    ·
     obtain ⟨d26, hd_d26⟩ : ∃ d26, (x.e)[i25]? = some d26 := ⟨_, List.getElem?_eq_getElem hlt_i25⟩
     have hdr_i25 : List.drop i25 x.e = d26 :: List.drop (i25 + 1) x.e := drop_cons hd_d26
     have hz33 := Ex.szl_mem (List.mem_of_getElem? hd_d26)
     have hy34 := Ex.sz_eq d26
     have hl35 := Ex.szl_len (d26).x
     refine JJ.seq ?_
     refine JJ.seq ?_
     refine JJ.region rfl fun rg => ?_
     refine JJ.move rg rfl rfl rfl ?_
     refine JJ.fieldAddr (a' := ⟨b19, 3, none⟩) fo35_3 rg rfl rfl rfl rfl ?_
     refine JJ.loadL (v := .slice (A1) ((x.e).length) (cp2)) ty33 1 rg rfl rfl rfl rfl rfl ?_
     refine JJ.lenSlice ss33 rg rfl rfl rfl ?_
     refine JJ.bin (v := .bool true) rg rfl rfl rfl rfl (congrArg (fun b => some (Value.bool b)) (decide_eq_true (by omega))) ?_
     refine JJ.regionEnd ?_
     refine JJ.cond (b := true) rfl ?_
     refine JJ.skip ?_
     refine JJ.seq ?_
     refine JJ.block ?_
     refine JJ.seq ?_
     obtain ⟨a36, cs37, hA38, hcap39, -, hre40, hrow41⟩ := RSl.get (hx3.mono (hle23.trans hle28)) hd_d26
     have hlthd_d26 := (List.getElem?_eq_some_iff.1 hd_d26).1
     obtain ⟨A42, cp43, rfl, hx44⟩ := RX.open hre40
     have hd45 := getD_some (l := y.e) (i := i25) (by omega)
     have hz46 := Ex.szl_mem (List.mem_of_getElem? hd45)
     have hy47 := Ex.sz_eq (y.e.getD i25 default)
     have hl48 := Ex.szl_len ((y.e.getD i25 default)).x
     obtain ⟨a49, cs50, hA51, hcap52, -, hre53, hrow54⟩ := RSl.get (hx12.mono (hle23.trans hle28)) hd45
     have hlthd45 := (List.getElem?_eq_some_iff.1 hd45).1
     obtain ⟨A55, cp56, rfl, hx57⟩ := RX.open hre53
     refine JJ.draw (m := 12) [(2, .pointer (some ⟨b19, 0, none⟩)), (3, .pointer (some ⟨b20, 0, none⟩)), (5, .int .i64 (((i25 : Nat) : Int)))]
      (fun i => match i with | 0 => fun _ v => v = .pointer (some ⟨b19, 3, none⟩) | 1 => fun _ v => v = .slice (A1) ((x.e).length) (cp2) | 2 => fun _ v => v = .int .i64 (((i25 : Nat) : Int)) | 3 => fun _ v => v = .pointer (some (a36.add (i25 * 4))) | 4 => fun _ v => v = .agg #[.int .i64 (d26.op), .int .i64 (d26.n), .string (d26.s), .slice (A42) ((d26.x).length) (cp43)] | 5 => fun _ v => v = .pointer (some ⟨b20, 3, none⟩) | 6 => fun _ v => v = .slice (A10) ((y.e).length) (cp11) | 7 => fun _ v => v = .int .i64 (((i25 : Nat) : Int)) | 8 => fun _ v => v = .pointer (some (a49.add (i25 * 4))) | 9 => fun _ v => v = .agg #[.int .i64 (((y.e.getD i25 default)).op), .int .i64 (((y.e.getD i25 default)).n), .string (((y.e.getD i25 default)).s), .slice (A55) ((((y.e.getD i25 default)).x).length) (cp56)] | 10 => fun _ v => v = .bool (F_sameX d26 (y.e.getD i25 default)) | 11 => fun _ v => v = .bool (!(F_sameX d26 (y.e.getD i25 default))) | _ => fun _ _ => False) mx rfl rfl ?_ (by repeat (first | exact trivial | refine ⟨rfl, ?_⟩)) (fun rg => ?_) (fun rg => ?_)
     ·
      rintro (_ | _ | _ | _ | _ | _ | _ | _ | _ | _ | _ | _ | i) I1_ I2_ v l h
      · exact h
      · exact h
      · exact h
      · exact h
      · exact h
      · exact h
      · exact h
      · exact h
      · exact h
      · exact h
      · exact h
      · exact h
      · exact h
     ·
      refine ⟨?_, ?_, ?_, ?_, ?_, ?_, ?_, ?_, ?_, ?_, ?_, ?_, trivial⟩
      ·
       intro is E2 I2_ hle_ hb hd kk_
       obtain ⟨hb2, hb3, hb5, -⟩ := hb
       refine JJ.fieldAddr (a' := ⟨b19, 3, none⟩) fo35_3 rg rfl rfl hb2 rfl (kk_ _ _ (.refl _) rfl)
      ·
       intro is E2 I2_ hle_ hb hd kk_
       obtain ⟨hb2, hb3, hb5, -⟩ := hb
       obtain ⟨d0, v0, e0, g0, s0⟩ := hd 0 (by decide)
       cases e0
       subst s0
       refine JJ.loadL (v := .slice (A1) ((x.e).length) (cp2)) ty33 1 rg rfl rfl g0 rfl rfl (kk_ _ _ (.refl _) rfl)
      ·
       intro is E2 I2_ hle_ hb hd kk_
       obtain ⟨hb2, hb3, hb5, -⟩ := hb
       refine JJ.move rg rfl rfl hb5 (kk_ _ _ (.refl _) rfl)
      ·
       intro is E2 I2_ hle_ hb hd kk_
       obtain ⟨hb2, hb3, hb5, -⟩ := hb
       obtain ⟨d1, v1, e1, g1, s1⟩ := hd 1 (by decide)
       cases e1
       subst s1
       obtain ⟨d2, v2, e2, g2, s2⟩ := hd 2 (by decide)
       cases e2
       subst s2
       refine JJ.indexAddrA hA38 (a' := a36.add (i25 * 4)) eo33 rg rfl rfl g1 g2 (by omega) (by omega) rfl (kk_ _ _ (.refl _) rfl)
      ·
       intro is E2 I2_ hle_ hb hd kk_
       obtain ⟨hb2, hb3, hb5, -⟩ := hb
       obtain ⟨d3, v3, e3, g3, s3⟩ := hd 3 (by decide)
       cases e3
       subst s3
       refine JJ.loadI (v := .agg #[.int .i64 (d26.op), .int .i64 (d26.n), .string (d26.s), .slice (A42) ((d26.x).length) (cp43)]) ty53 rg rfl rfl g3 (hrow41.mono hle_) rfl (kk_ _ _ (.refl _) rfl)
      ·
       intro is E2 I2_ hle_ hb hd kk_
       obtain ⟨hb2, hb3, hb5, -⟩ := hb
       refine JJ.fieldAddr (a' := ⟨b20, 3, none⟩) fo35_3 rg rfl rfl hb3 rfl (kk_ _ _ (.refl _) rfl)
      ·
       intro is E2 I2_ hle_ hb hd kk_
       obtain ⟨hb2, hb3, hb5, -⟩ := hb
       obtain ⟨d5, v5, e5, g5, s5⟩ := hd 5 (by decide)
       cases e5
       subst s5
       refine JJ.loadL (v := .slice (A10) ((y.e).length) (cp11)) ty33 0 rg rfl rfl g5 rfl rfl (kk_ _ _ (.refl _) rfl)
      ·
       intro is E2 I2_ hle_ hb hd kk_
       obtain ⟨hb2, hb3, hb5, -⟩ := hb
       refine JJ.move rg rfl rfl hb5 (kk_ _ _ (.refl _) rfl)
      ·
       intro is E2 I2_ hle_ hb hd kk_
       obtain ⟨hb2, hb3, hb5, -⟩ := hb
       obtain ⟨d6, v6, e6, g6, s6⟩ := hd 6 (by decide)
       cases e6
       subst s6
       obtain ⟨d7, v7, e7, g7, s7⟩ := hd 7 (by decide)
       cases e7
       subst s7
       refine JJ.indexAddrA hA51 (a' := a49.add (i25 * 4)) eo33 rg rfl rfl g6 g7 (by omega) (by omega) rfl (kk_ _ _ (.refl _) rfl)
      ·
       intro is E2 I2_ hle_ hb hd kk_
       obtain ⟨hb2, hb3, hb5, -⟩ := hb
       obtain ⟨d8, v8, e8, g8, s8⟩ := hd 8 (by decide)
       cases e8
       subst s8
       refine JJ.loadI (v := .agg #[.int .i64 (((y.e.getD i25 default)).op), .int .i64 (((y.e.getD i25 default)).n), .string (((y.e.getD i25 default)).s), .slice (A55) ((((y.e.getD i25 default)).x).length) (cp56)]) ty53 rg rfl rfl g8 (hrow54.mono hle_) rfl (kk_ _ _ (.refl _) rfl)
      ·
       intro is E2 I2_ hle_ hb hd kk_
       obtain ⟨hb2, hb3, hb5, -⟩ := hb
       obtain ⟨d4, v4, e4, g4, s4⟩ := hd 4 (by decide)
       cases e4
       subst s4
       obtain ⟨d9, v9, e9, g9, s9⟩ := hd 9 (by decide)
       cases e9
       subst s9
       refine JJ.callp bo16 rg rfl rfl rfl (evL_cons g4 (evL_cons g9 rfl)) (sameX _ _ d26 (hre40.mono hle_) _ ((y.e.getD i25 default)) (hre53.mono hle_) (by first | assumption | omega) (by first | assumption | omega)) fun _ I60 hle61 _ => (kk_ _ _ hle61 rfl)
      ·
       intro is E2 I2_ hle_ hb hd kk_
       obtain ⟨hb2, hb3, hb5, -⟩ := hb
       obtain ⟨d10, v10, e10, g10, s10⟩ := hd 10 (by decide)
       cases e10
       subst s10
       refine JJ.not rg rfl rfl g10 (kk_ _ _ (.refl _) rfl)
     intro vs I63 hle62 hs_
     obtain ⟨hv0, hv1, hv2, hv3, hv4, hv5, hv6, hv7, hv8, hv9, hv10, hv11, -⟩ := hs_
     refine JJ.keep [(2, .pointer (some ⟨b19, 0, none⟩)), (3, .pointer (some ⟨b20, 0, none⟩)), (5, .int .i64 (((i25 : Nat) : Int))), (59, .bool (!(F_sameX d26 (y.e.getD i25 default))))] ⟨rfl, rfl, rfl, congrArg some hv11, trivial⟩ ?_
     refine JJ.regionEnd ?_
     refine JJ.cond2 rfl (fun hc6 => ?_) (fun hc6 => ?_)
     ·
      have hc6b := hc6
      replace hc6 := not_t hc6
      replace hc6b := hc6
      refine JJ.seq ?_
      refine JJ.region rfl fun rg => ?_
      refine JJ.assign rg rfl rfl rfl ?_
      refine JJ.regionEnd ?_
      have hE64 : F_sameS_l0 y 0 x.e = .inl false := by rw [hsp29, hdr_i25]; simp only [F_sameS_l0, hc6b, xb0, xb1, xb2, xb3, xb4, xb5, xb6, xb7, xb8, xb9, xb10, xb11]
      have hF : F_sameS x y = false := by simp only [F_sameS, hc1b, hE64, xb0, xb1, xb2, xb3, xb4, xb5, xb6, xb7, xb8, xb9, xb10, xb11]
      refine JJ.ret1 rfl Try.func36 rfl rfl (fun h h_ => ⟨(), trivial, (by rw [hF]), trivial⟩)
     ·
      have hc6b := hc6
      replace hc6 := not_f hc6
      replace hc6b := hc6
      refine JJ.skip ?_
      refine JJ.inBlock ?_
      refine JJ.region rfl fun rg => ?_
      refine JJ.move rg rfl rfl rfl ?_
      refine JJ.binI (z := ((i25 + 1 : Nat) : Int)) rg rfl rfl rfl rfl rfl (wrap_to (by omega) (by omega) (by omega)) ?_
      refine JJ.assign rg rfl rfl rfl ?_
      refine JJ.regionEnd ?_
      have hnx : F_sameS_l0 y 0 x.e = F_sameS_l0 y (i25 + 1) (List.drop (i25 + 1) x.e) := by rw [hsp29, hdr_i25]; simp only [F_sameS_l0, hc6b, xb0, xb1, xb2, xb3, xb4, xb5, xb6, xb7, xb8, xb9, xb10, xb11]
      refine JJ.keep _ ?_ (ih31 (i25 + 1, I63) ⟨hlt_i25, (hle28.trans hle62), hnx⟩ (by dsimp only; omega))
      repeat (first | exact trivial | refine ⟨rfl, ?_⟩)
    ·
     have heq_i25 : i25 = (x.e).length := by omega
     have hdr_i25 : List.drop i25 x.e = [] := by rw [heq_i25]; exact List.drop_length
     refine JJ.seq ?_
     refine JJ.seq ?_
     refine JJ.region rfl fun rg => ?_
     refine JJ.move rg rfl rfl rfl ?_
     refine JJ.fieldAddr (a' := ⟨b19, 3, none⟩) fo35_3 rg rfl rfl rfl rfl ?_
     refine JJ.loadL (v := .slice (A1) ((x.e).length) (cp2)) ty33 1 rg rfl rfl rfl rfl rfl ?_
     refine JJ.lenSlice ss33 rg rfl rfl rfl ?_
     refine JJ.bin (v := .bool false) rg rfl rfl rfl rfl (congrArg (fun b => some (Value.bool b)) (decide_eq_false (by omega))) ?_
     refine JJ.regionEnd ?_
     refine JJ.cond (b := false) rfl ?_
     refine JJ.exit rfl ?_
     have hE : F_sameS_l0 y 0 x.e = .inr () := by rw [hsp29, hdr_i25]; simp only [F_sameS_l0, xb0, xb1, xb2, xb3, xb4, xb5, xb6, xb7, xb8, xb9, xb10, xb11]
     refine JJ.keep _ ?_ (hk32 (I27) ⟨hle28, hE⟩)
     repeat (first | exact trivial | refine ⟨rfl, ?_⟩)
   ·
    rintro I65 ⟨hle66, hE67⟩
    try dsimp only at hle66 hE67 ⊢
    refine JJ.seq ?_
    refine JJ.cut (X := Hp) (fun _ => [(4, .bool (((F_sameB x.body y.body) && (F_sameB x.els y.els))))]) (fun x => x) (fun _ => [blk b20 (.cells ([.int .i64 (y.op), .string (y.s), .int .i64 (y.n), .slice (A10) ((y.e).length) (cp11), .slice (A13) ((y.body).length) (cp14), .slice (A16) ((y.els).length) (cp17), .bool (y.commit)]).toArray 35), blk b19 (.cells ([.int .i64 (x.op), .string (x.s), .int .i64 (x.n), .slice (A1) ((x.e).length) (cp2), .slice (A4) ((x.body).length) (cp5), .slice (A7) ((x.els).length) (cp8), .bool (x.commit)]).toArray 35)]) (fun x => Hp.le (I65) x) (fun hk68 => ?_) ?_
    ·
     refine JJ.region rfl fun rg => ?_
     refine JJ.fieldAddr (a' := ⟨b19, 4, none⟩) fo35_4 rg rfl rfl rfl rfl ?_
     refine JJ.loadL (v := .slice (A4) ((x.body).length) (cp5)) ty23 1 rg rfl rfl rfl rfl rfl ?_
     refine JJ.fieldAddr (a' := ⟨b20, 4, none⟩) fo35_4 rg rfl rfl rfl rfl ?_
     refine JJ.loadL (v := .slice (A13) ((y.body).length) (cp14)) ty23 0 rg rfl rfl rfl rfl rfl ?_
     refine JJ.callp bo15 rg rfl rfl rfl rfl (ih _ _ _ x.body (hx6.mono (hle23.trans hle66)) (by first | assumption | omega | (simp; done)) _ _ y.body (hx15.mono (hle23.trans hle66)) (by first | assumption | omega | (simp; done)) (by first | assumption | omega) (by first | assumption | omega) (by omega)) fun _ I73 hle74 _ => ?_
     refine JJ.move rg rfl rfl rfl ?_
     refine JJ.split 65 rfl (fun hg8_6 => ?_) (fun hg8_6 => ?_)
     ·
      have hg8_6b := hg8_6
      refine JJ.fieldAddr (a' := ⟨b19, 5, none⟩) fo35_5 rg rfl rfl rfl rfl ?_
      refine JJ.loadL (v := .slice (A7) ((x.els).length) (cp8)) ty23 1 rg rfl rfl rfl rfl rfl ?_
      refine JJ.fieldAddr (a' := ⟨b20, 5, none⟩) fo35_5 rg rfl rfl rfl rfl ?_
      refine JJ.loadL (v := .slice (A16) ((y.els).length) (cp17)) ty23 0 rg rfl rfl rfl rfl rfl ?_
      refine JJ.callp bo15 rg rfl rfl rfl rfl (ih _ _ _ x.els (hx9.mono (hle23.trans (hle66.trans hle74))) (by first | assumption | omega | (simp; done)) _ _ y.els (hx18.mono (hle23.trans (hle66.trans hle74))) (by first | assumption | omega | (simp; done)) (by first | assumption | omega) (by first | assumption | omega) (by omega)) fun _ I77 hle78 _ => ?_
      refine JJ.pick (b := true) rg rfl rfl rfl rfl ?_
      refine JJ.assign rg rfl rfl rfl ?_
      refine JJ.regionEnd ?_
      refine JJ.keep _ ?_ (hk68 _ (hle74.trans hle78))
      exact ⟨congrArg (fun b => some (Value.bool b)) (by simp only [hg8_6b, xb0, xb1, xb2, xb3, xb4, xb5, xb6, xb7, xb8, xb9, xb10, xb11]), trivial⟩
     ·
      have hg8_6b := hg8_6
      refine JJ.gskip rg rfl rfl ?_
      refine JJ.gskip rg rfl rfl ?_
      refine JJ.gskip rg rfl rfl ?_
      refine JJ.gskip rg rfl rfl ?_
      refine JJ.gskip rg rfl rfl ?_
      refine JJ.pick (b := false) rg rfl rfl rfl rfl ?_
      refine JJ.assign rg rfl rfl rfl ?_
      refine JJ.regionEnd ?_
      refine JJ.keep _ ?_ (hk68 _ hle74)
      exact ⟨congrArg (fun b => some (Value.bool b)) (by simp only [hg8_6b, xb0, xb1, xb2, xb3, xb4, xb5, xb6, xb7, xb8, xb9, xb10, xb11]), trivial⟩
    ·
     intro I69 hle70
     have hF : F_sameS x y = ((F_sameB x.body y.body) && (F_sameB x.els y.els)) := by simp only [F_sameS, hc1b, hE67, xb0, xb1, xb2, xb3, xb4, xb5, xb6, xb7, xb8, xb9, xb10, xb11]
     refine JJ.ret1 rfl Try.func36 rfl rfl (fun h h_ => ⟨(), trivial, (by rw [hF]), trivial⟩)
theorem sameB_rec : ∀ (N : Nat) (I : Hp) (A_a : Option Addr) (cp_a : Nat) (a : List St) (h_a : RTs I A_a (a).length cp_a a) (n_a : (a).length ≤ 4294967296) (A_b : Option Addr) (cp_b : Nat) (b : List St) (h_b : RTs I A_b (b).length cp_b b) (n_b : (b).length ≤ 4294967296) (hz : St.szl a ≤ 4294967296) (hz2 : St.szl b ≤ 4294967296) (hN : 2 * St.szl a < N), Fn Try.prog 15 #[.slice (A_a) ((a).length) (cp_a), .slice (A_b) ((b).length) (cp_b)] I [] (Ret (X := Unit) (fun x_ I' => True) (fun x_ => .bool (F_sameB a b)) fun _ => []) := by
 intro N
 induction N with
 | zero => intro I A_a cp_a a h_a n_a A_b cp_b b h_b n_b hz hz2 hN; exact absurd hN (by omega)
 | succ N ih =>
 intro I A_a cp_a a h_a n_a A_b cp_b b h_b n_b hz hz2 hN
 refine Fn.of (args := [_, _]) Try.func15 rfl rfl ?_
 refine JJ.seq ?_
 refine JJ.region rfl fun rg => ?_
 refine JJ.assign rg rfl rfl rfl ?_
 refine JJ.regionEnd ?_
 refine JJ.seq ?_
 refine JJ.seq ?_
 refine JJ.region rfl fun rg => ?_
 refine JJ.move rg rfl rfl rfl ?_
 refine JJ.lenSlice ss23 rg rfl rfl rfl ?_
 refine JJ.move rg rfl rfl rfl ?_
 refine JJ.lenSlice ss23 rg rfl rfl rfl ?_
 refine JJ.bin rg rfl rfl rfl rfl rfl ?_
 refine JJ.regionEnd ?_
 refine JJ.cond2 rfl (fun hc1 => ?_) (fun hc1 => ?_)
 ·
  have hc1b := hc1
  replace hc1 := not_t hc1
  replace hc1b := hc1
  replace hc1 := of_decide_eq_false hc1
  refine JJ.seq ?_
  refine JJ.region rfl fun rg => ?_
  refine JJ.assign rg rfl rfl rfl ?_
  refine JJ.regionEnd ?_
  have hF : F_sameB a b = false := by simp only [F_sameB, hc1b, xb0, xb1, xb2, xb3, xb4, xb5, xb6, xb7, xb8, xb9, xb10, xb11]
  refine JJ.ret1 rfl Try.func15 rfl rfl (fun h h_ => ⟨(), trivial, (by rw [hF]), trivial⟩)
 ·
  have hc1b := hc1
  replace hc1 := not_f hc1
  replace hc1b := hc1
  replace hc1 := of_decide_eq_true hc1
  have hlen : a.length = b.length := by have h9 := hc1b; simp only [Bool.or_eq_false_iff, Bool.not_eq_false', decide_eq_true_eq] at h9; omega
  refine JJ.skip ?_
  refine JJ.seq ?_
  refine JJ.seq ?_
  refine JJ.region rfl fun rg => ?_
  refine JJ.assign rg rfl rfl rfl ?_
  refine JJ.regionEnd ?_
  refine JJ.cut (X := Hp) (fun z => []) (fun z => z) (fun z => [])
   (fun z => Hp.le (I) z ∧ F_sameB_l0 b 0 a = .inr ()) (fun hk9 => ?_) ?_
  ·
   refine JJ.block ?_
   refine JJ.induct (X := Nat × Hp) (fun z => [(0, .slice (A_a) ((a).length) (cp_a)), (1, .slice (A_b) ((b).length) (cp_b)), (5, .int .i64 (((z.1 : Nat) : Int)))]) (fun z => z.2) (fun z => [])
    (fun z => z.1 ≤ (a).length ∧ Hp.le (I) z.2 ∧ F_sameB_l0 b 0 a = F_sameB_l0 b z.1 (List.drop z.1 a)) (fun z => (a).length - z.1)
    (0, I) ⟨Nat.zero_le _, .refl _, by rw [List.drop_zero]⟩
    (fun h => JJ.keep _ (by repeat (first | exact trivial | refine ⟨rfl, ?_⟩)) h) ?_
   rintro ⟨i2, I4⟩ ⟨hi7, hle5, hsp6⟩ ih8
   try dsimp only at hi7 hle5 hsp6 ih8 ⊢
   rcases Nat.lt_or_ge i2 ((a).length) with hlt_i2 | hge_i2
   ·
    obtain ⟨d3, hd_d3⟩ : ∃ d3, (a)[i2]? = some d3 := ⟨_, List.getElem?_eq_getElem hlt_i2⟩
    have hdr_i2 : List.drop i2 a = d3 :: List.drop (i2 + 1) a := drop_cons hd_d3
    have hz10 := St.szl_mem (List.mem_of_getElem? hd_d3)
    have hy11 := St.sz_eq d3
    have hl12 := Ex.szl_len (d3).e
    have hl13 := St.szl_len (d3).body
    have hl14 := St.szl_len (d3).els
    refine JJ.seq ?_
    refine JJ.seq ?_
    refine JJ.region rfl fun rg => ?_
    refine JJ.move rg rfl rfl rfl ?_
    refine JJ.move rg rfl rfl rfl ?_
    refine JJ.lenSlice ss23 rg rfl rfl rfl ?_
    refine JJ.bin (v := .bool true) rg rfl rfl rfl rfl (congrArg (fun b => some (Value.bool b)) (decide_eq_true (by omega))) ?_
    refine JJ.regionEnd ?_
    refine JJ.cond (b := true) rfl ?_
    refine JJ.skip ?_
    refine JJ.seq ?_
    refine JJ.block ?_
    refine JJ.seq ?_
    obtain ⟨a15, cs16, hA17, hcap18, -, hre19, hrow20⟩ := RSl.get (h_a.mono hle5) hd_d3
    have hlthd_d3 := (List.getElem?_eq_some_iff.1 hd_d3).1
    obtain ⟨A21, cp22, A24, cp25, A27, cp28, rfl, hx23, hx26, hx29⟩ := RT.open hre19
    have hd30 := getD_some (l := b) (i := i2) (by omega)
    have hz31 := St.szl_mem (List.mem_of_getElem? hd30)
    have hy32 := St.sz_eq (b.getD i2 default)
    have hl33 := Ex.szl_len ((b.getD i2 default)).e
    have hl34 := St.szl_len ((b.getD i2 default)).body
    have hl35 := St.szl_len ((b.getD i2 default)).els
    obtain ⟨a36, cs37, hA38, hcap39, -, hre40, hrow41⟩ := RSl.get (h_b.mono hle5) hd30
    have hlthd30 := (List.getElem?_eq_some_iff.1 hd30).1
    obtain ⟨A42, cp43, A45, cp46, A48, cp49, rfl, hx44, hx47, hx50⟩ := RT.open hre40
    refine JJ.draw (m := 10) [(0, .slice (A_a) ((a).length) (cp_a)), (1, .slice (A_b) ((b).length) (cp_b)), (5, .int .i64 (((i2 : Nat) : Int)))]
     (fun i => match i with | 0 => fun _ v => v = .slice (A_a) ((a).length) (cp_a) | 1 => fun _ v => v = .int .i64 (((i2 : Nat) : Int)) | 2 => fun _ v => v = .pointer (some (a15.add (i2 * 7))) | 3 => fun _ v => v = .agg #[.int .i64 (d3.op), .string (d3.s), .int .i64 (d3.n), .slice (A21) ((d3.e).length) (cp22), .slice (A24) ((d3.body).length) (cp25), .slice (A27) ((d3.els).length) (cp28), .bool (d3.commit)] | 4 => fun _ v => v = .slice (A_b) ((b).length) (cp_b) | 5 => fun _ v => v = .int .i64 (((i2 : Nat) : Int)) | 6 => fun _ v => v = .pointer (some (a36.add (i2 * 7))) | 7 => fun _ v => v = .agg #[.int .i64 (((b.getD i2 default)).op), .string (((b.getD i2 default)).s), .int .i64 (((b.getD i2 default)).n), .slice (A42) ((((b.getD i2 default)).e).length) (cp43), .slice (A45) ((((b.getD i2 default)).body).length) (cp46), .slice (A48) ((((b.getD i2 default)).els).length) (cp49), .bool (((b.getD i2 default)).commit)] | 8 => fun _ v => v = .bool (F_sameS d3 (b.getD i2 default)) | 9 => fun _ v => v = .bool (!(F_sameS d3 (b.getD i2 default))) | _ => fun _ _ => False) mx rfl rfl ?_ (by repeat (first | exact trivial | refine ⟨rfl, ?_⟩)) (fun rg => ?_) (fun rg => ?_)
    ·
     rintro (_ | _ | _ | _ | _ | _ | _ | _ | _ | _ | i) I1_ I2_ v l h
     · exact h
     · exact h
     · exact h
     · exact h
     · exact h
     · exact h
     · exact h
     · exact h
     · exact h
     · exact h
     · exact h
    ·
     refine ⟨?_, ?_, ?_, ?_, ?_, ?_, ?_, ?_, ?_, ?_, trivial⟩
     ·
      intro is E2 I2_ hle_ hb hd kk_
      obtain ⟨hb0, hb1, hb5, -⟩ := hb
      refine JJ.move rg rfl rfl hb0 (kk_ _ _ (.refl _) rfl)
     ·
      intro is E2 I2_ hle_ hb hd kk_
      obtain ⟨hb0, hb1, hb5, -⟩ := hb
      refine JJ.move rg rfl rfl hb5 (kk_ _ _ (.refl _) rfl)
     ·
      intro is E2 I2_ hle_ hb hd kk_
      obtain ⟨hb0, hb1, hb5, -⟩ := hb
      obtain ⟨d0, v0, e0, g0, s0⟩ := hd 0 (by decide)
      cases e0
      subst s0
      obtain ⟨d1, v1, e1, g1, s1⟩ := hd 1 (by decide)
      cases e1
      subst s1
      refine JJ.indexAddrA hA17 (a' := a15.add (i2 * 7)) eo23 rg rfl rfl g0 g1 (by omega) (by omega) rfl (kk_ _ _ (.refl _) rfl)
     ·
      intro is E2 I2_ hle_ hb hd kk_
      obtain ⟨hb0, hb1, hb5, -⟩ := hb
      obtain ⟨d2, v2, e2, g2, s2⟩ := hd 2 (by decide)
      cases e2
      subst s2
      refine JJ.loadI (v := .agg #[.int .i64 (d3.op), .string (d3.s), .int .i64 (d3.n), .slice (A21) ((d3.e).length) (cp22), .slice (A24) ((d3.body).length) (cp25), .slice (A27) ((d3.els).length) (cp28), .bool (d3.commit)]) ty35 rg rfl rfl g2 (hrow20.mono hle_) rfl (kk_ _ _ (.refl _) rfl)
     ·
      intro is E2 I2_ hle_ hb hd kk_
      obtain ⟨hb0, hb1, hb5, -⟩ := hb
      refine JJ.move rg rfl rfl hb1 (kk_ _ _ (.refl _) rfl)
     ·
      intro is E2 I2_ hle_ hb hd kk_
      obtain ⟨hb0, hb1, hb5, -⟩ := hb
      refine JJ.move rg rfl rfl hb5 (kk_ _ _ (.refl _) rfl)
     ·
      intro is E2 I2_ hle_ hb hd kk_
      obtain ⟨hb0, hb1, hb5, -⟩ := hb
      obtain ⟨d4, v4, e4, g4, s4⟩ := hd 4 (by decide)
      cases e4
      subst s4
      obtain ⟨d5, v5, e5, g5, s5⟩ := hd 5 (by decide)
      cases e5
      subst s5
      refine JJ.indexAddrA hA38 (a' := a36.add (i2 * 7)) eo23 rg rfl rfl g4 g5 (by omega) (by omega) rfl (kk_ _ _ (.refl _) rfl)
     ·
      intro is E2 I2_ hle_ hb hd kk_
      obtain ⟨hb0, hb1, hb5, -⟩ := hb
      obtain ⟨d6, v6, e6, g6, s6⟩ := hd 6 (by decide)
      cases e6
      subst s6
      refine JJ.loadI (v := .agg #[.int .i64 (((b.getD i2 default)).op), .string (((b.getD i2 default)).s), .int .i64 (((b.getD i2 default)).n), .slice (A42) ((((b.getD i2 default)).e).length) (cp43), .slice (A45) ((((b.getD i2 default)).body).length) (cp46), .slice (A48) ((((b.getD i2 default)).els).length) (cp49), .bool (((b.getD i2 default)).commit)]) ty35 rg rfl rfl g6 (hrow41.mono hle_) rfl (kk_ _ _ (.refl _) rfl)
     ·
      intro is E2 I2_ hle_ hb hd kk_
      obtain ⟨hb0, hb1, hb5, -⟩ := hb
      obtain ⟨d3, v3, e3, g3, s3⟩ := hd 3 (by decide)
      cases e3
      subst s3
      obtain ⟨d7, v7, e7, g7, s7⟩ := hd 7 (by decide)
      cases e7
      subst s7
      refine JJ.callp bo36 rg rfl rfl rfl (evL_cons g3 (evL_cons g7 rfl)) (sameS_of _ _ d3 (hre19.mono hle_) _ ((b.getD i2 default)) (hre40.mono hle_) (by first | assumption | omega) (by first | assumption | omega) _ ih (by omega)) fun _ I53 hle54 _ => (kk_ _ _ hle54 rfl)
     ·
      intro is E2 I2_ hle_ hb hd kk_
      obtain ⟨hb0, hb1, hb5, -⟩ := hb
      obtain ⟨d8, v8, e8, g8, s8⟩ := hd 8 (by decide)
      cases e8
      subst s8
      refine JJ.not rg rfl rfl g8 (kk_ _ _ (.refl _) rfl)
    intro vs I56 hle55 hs_
    obtain ⟨hv0, hv1, hv2, hv3, hv4, hv5, hv6, hv7, hv8, hv9, -⟩ := hs_
    refine JJ.keep [(0, .slice (A_a) ((a).length) (cp_a)), (1, .slice (A_b) ((b).length) (cp_b)), (5, .int .i64 (((i2 : Nat) : Int))), (26, .bool (!(F_sameS d3 (b.getD i2 default))))] ⟨rfl, rfl, rfl, congrArg some hv9, trivial⟩ ?_
    refine JJ.regionEnd ?_
    refine JJ.cond2 rfl (fun hc6 => ?_) (fun hc6 => ?_)
    ·
     have hc6b := hc6
     replace hc6 := not_t hc6
     replace hc6b := hc6
     refine JJ.seq ?_
     refine JJ.region rfl fun rg => ?_
     refine JJ.assign rg rfl rfl rfl ?_
     refine JJ.regionEnd ?_
     have hE57 : F_sameB_l0 b 0 a = .inl false := by rw [hsp6, hdr_i2]; simp only [F_sameB_l0, hc6b, xb0, xb1, xb2, xb3, xb4, xb5, xb6, xb7, xb8, xb9, xb10, xb11]
     have hF : F_sameB a b = false := by simp only [F_sameB, hc1b, hE57, xb0, xb1, xb2, xb3, xb4, xb5, xb6, xb7, xb8, xb9, xb10, xb11]
     refine JJ.ret1 rfl Try.func15 rfl rfl (fun h h_ => ⟨(), trivial, (by rw [hF]), trivial⟩)
    ·
     have hc6b := hc6
     replace hc6 := not_f hc6
     replace hc6b := hc6
     refine JJ.skip ?_
     refine JJ.inBlock ?_
     refine JJ.region rfl fun rg => ?_
     refine JJ.move rg rfl rfl rfl ?_
     refine JJ.binI (z := ((i2 + 1 : Nat) : Int)) rg rfl rfl rfl rfl rfl (wrap_to (by omega) (by omega) (by omega)) ?_
     refine JJ.assign rg rfl rfl rfl ?_
     refine JJ.regionEnd ?_
     have hnx : F_sameB_l0 b 0 a = F_sameB_l0 b (i2 + 1) (List.drop (i2 + 1) a) := by rw [hsp6, hdr_i2]; simp only [F_sameB_l0, hc6b, xb0, xb1, xb2, xb3, xb4, xb5, xb6, xb7, xb8, xb9, xb10, xb11]
     refine JJ.keep _ ?_ (ih8 (i2 + 1, I56) ⟨hlt_i2, (hle5.trans hle55), hnx⟩ (by dsimp only; omega))
     repeat (first | exact trivial | refine ⟨rfl, ?_⟩)
   ·
    have heq_i2 : i2 = (a).length := by omega
    have hdr_i2 : List.drop i2 a = [] := by rw [heq_i2]; exact List.drop_length
    refine JJ.seq ?_
    refine JJ.seq ?_
    refine JJ.region rfl fun rg => ?_
    refine JJ.move rg rfl rfl rfl ?_
    refine JJ.move rg rfl rfl rfl ?_
    refine JJ.lenSlice ss23 rg rfl rfl rfl ?_
    refine JJ.bin (v := .bool false) rg rfl rfl rfl rfl (congrArg (fun b => some (Value.bool b)) (decide_eq_false (by omega))) ?_
    refine JJ.regionEnd ?_
    refine JJ.cond (b := false) rfl ?_
    refine JJ.exit rfl ?_
    have hE : F_sameB_l0 b 0 a = .inr () := by rw [hsp6, hdr_i2]; simp only [F_sameB_l0, xb0, xb1, xb2, xb3, xb4, xb5, xb6, xb7, xb8, xb9, xb10, xb11]
    refine JJ.keep _ ?_ (hk9 (I4) ⟨hle5, hE⟩)
    repeat (first | exact trivial | refine ⟨rfl, ?_⟩)
  ·
   rintro I58 ⟨hle59, hE60⟩
   try dsimp only at hle59 hE60 ⊢
   refine JJ.seq ?_
   refine JJ.region rfl fun rg => ?_
   refine JJ.assign rg rfl rfl rfl ?_
   refine JJ.regionEnd ?_
   have hF : F_sameB a b = true := by simp only [F_sameB, hc1b, hE60, xb0, xb1, xb2, xb3, xb4, xb5, xb6, xb7, xb8, xb9, xb10, xb11]
   refine JJ.ret1 rfl Try.func15 rfl rfl (fun h h_ => ⟨(), trivial, (by rw [hF]), trivial⟩)
theorem sameB (I : Hp) (A_a : Option Addr) (cp_a : Nat) (a : List St) (h_a : RTs I A_a (a).length cp_a a) (n_a : (a).length ≤ 4294967296) (A_b : Option Addr) (cp_b : Nat) (b : List St) (h_b : RTs I A_b (b).length cp_b b) (n_b : (b).length ≤ 4294967296) (hz : St.szl a ≤ 4294967296) (hz2 : St.szl b ≤ 4294967296) : Fn Try.prog 15 #[.slice (A_a) ((a).length) (cp_a), .slice (A_b) ((b).length) (cp_b)] I [] (Ret (X := Unit) (fun x_ I' => True) (fun x_ => .bool (F_sameB a b)) fun _ => []) := sameB_rec _ I A_a cp_a a h_a n_a A_b cp_b b h_b n_b hz hz2 (Nat.lt_succ_self _)
theorem sameS (I : Hp) (cs_x : List Value) (x : St) (h_x : RT I cs_x x) (cs_y : List Value) (y : St) (h_y : RT I cs_y y) (hz : x.sz ≤ 4294967296) (hz2 : y.sz ≤ 4294967296) : Fn Try.prog 36 #[.agg (cs_x).toArray, .agg (cs_y).toArray] I [] (Ret (X := Unit) (fun x_ I' => True) (fun x_ => .bool (F_sameS x y)) fun _ => []) := sameS_of I cs_x x h_x cs_y y h_y hz hz2 _ (fun I A_a cp_a a h_a n_a A_b cp_b b h_b n_b hz hz2 _ => sameB I A_a cp_a a h_a n_a A_b cp_b b h_b n_b hz hz2) (Nat.le_refl _)
def F_same_l0 (q : Pg) : Nat → List Pc → Sum (Bool) (Unit)
  | _, [] => .inr ()
  | i39, d40 :: LREST => bif ((!decide (d40.name.data.toList = (((q.procs.getD i39 default)).name).data.toList)) || (!(F_sameB d40.body (((q.procs.getD i39 default)).body)))) then (.inl false) else (F_same_l0 q (i39 + 1) LREST)
def F_same_l2 (q : Pg) : Nat → List Oc → Sum (Bool) (Unit)
  | _, [] => .inr ()
  | i83, d84 :: LREST => bif ((!decide (d84.name.data.toList = (((q.oracles.getD i83 default)).name).data.toList)) || (!(F_sameX d84.e (((q.oracles.getD i83 default)).e)))) then (.inl false) else (F_same_l2 q (i83 + 1) LREST)
def F_same (p : Pg) (q : Pg) : Bool :=
  bif ((!decide (((((p.procs).length : Nat) : Int) : Int) = (((q.procs).length : Nat) : Int))) || (((!decide (((((p.oracles).length : Nat) : Int) : Int) = (((q.oracles).length : Nat) : Int))) || (((!(F_sameB p.main q.main)) || (!(F_sameB p.recover q.recover))))))) then (false) else ((match F_same_l0 q 0 p.procs with | .inl r_ => r_ | .inr () => (match F_same_l2 q 0 p.oracles with | .inl r_ => r_ | .inr () => true)))
set_option maxHeartbeats 4000000 in
theorem same (I : Hp) (cs_p : List Value) (p : Pg) (h_p : RP I cs_p p) (cs_q : List Value) (q : Pg) (h_q : RP I cs_q q) (hz : p.sz ≤ 4294967296) (hz2 : q.sz ≤ 4294967296) : Fn Try.prog 7 #[.agg (cs_p).toArray, .agg (cs_q).toArray] I [] (Ret (X := Unit) (fun x_ I' => True) (fun x_ => .bool (F_same p q)) fun _ => []) := by
 have hy_p : p.sz = Pc.szl p.procs + St.szl p.main + St.szl p.recover + Oc.szl p.oracles := rfl
 have hl1_p := Pc.szl_len p.procs
 have hl2_p := Oc.szl_len p.oracles
 have hl3_p := St.szl_len p.main
 have hl4_p := St.szl_len p.recover
 have hy_q : q.sz = Pc.szl q.procs + St.szl q.main + St.szl q.recover + Oc.szl q.oracles := rfl
 have hl1_q := Pc.szl_len q.procs
 have hl2_q := Oc.szl_len q.oracles
 have hl3_q := St.szl_len q.main
 have hl4_q := St.szl_len q.recover
 obtain ⟨A1, cp2, A4, cp5, A7, cp8, A10, cp11, rfl, hx3, hx6, hx9, hx12⟩ := RP.open h_p
 obtain ⟨A13, cp14, A16, cp17, A19, cp20, A22, cp23, rfl, hx15, hx18, hx21, hx24⟩ := RP.open h_q
 refine Fn.of (args := [_, _]) Try.func7 rfl rfl ?_
 refine JJ.seq ?_
 refine JJ.region rfl fun rg => ?_
 refine JJ.box (cs := [.slice (A1) ((p.procs).length) (cp2), .slice (A4) ((p.main).length) (cp5), .slice (A7) ((p.recover).length) (cp8), .slice (A10) ((p.oracles).length) (cp11)]) rg rfl rfl rfl rfl fun b25 => ?_
 refine JJ.box (cs := [.slice (A13) ((q.procs).length) (cp14), .slice (A16) ((q.main).length) (cp17), .slice (A19) ((q.recover).length) (cp20), .slice (A22) ((q.oracles).length) (cp23)]) rg rfl rfl rfl rfl fun b26 => ?_
 refine JJ.assign rg rfl rfl rfl ?_
 refine JJ.regionEnd ?_
 refine JJ.seq ?_
 refine JJ.seq ?_
 refine JJ.cut (X := Hp) (fun _ => [(38, .bool (((!decide (((((p.procs).length : Nat) : Int) : Int) = (((q.procs).length : Nat) : Int))) || (((!decide (((((p.oracles).length : Nat) : Int) : Int) = (((q.oracles).length : Nat) : Int))) || (((!(F_sameB p.main q.main)) || (!(F_sameB p.recover q.recover))))))))), (2, .pointer (some ⟨b25, 0, none⟩)), (3, .pointer (some ⟨b26, 0, none⟩))]) (fun x => x) (fun _ => [blk b26 (.cells ([.slice (A13) ((q.procs).length) (cp14), .slice (A16) ((q.main).length) (cp17), .slice (A19) ((q.recover).length) (cp20), .slice (A22) ((q.oracles).length) (cp23)]).toArray 26), blk b25 (.cells ([.slice (A1) ((p.procs).length) (cp2), .slice (A4) ((p.main).length) (cp5), .slice (A7) ((p.recover).length) (cp8), .slice (A10) ((p.oracles).length) (cp11)]).toArray 26)]) (fun x => Hp.le (I) x) (fun hk27 => ?_) ?_
 ·
  refine JJ.region rfl fun rg => ?_
  refine JJ.fieldAddr (a' := ⟨b25, 0, none⟩) fo26_0 rg rfl rfl rfl rfl ?_
  refine JJ.loadL (v := .slice (A1) ((p.procs).length) (cp2)) ty22 1 rg rfl rfl rfl rfl rfl ?_
  refine JJ.lenSlice ss22 rg rfl rfl rfl ?_
  refine JJ.fieldAddr (a' := ⟨b26, 0, none⟩) fo26_0 rg rfl rfl rfl rfl ?_
  refine JJ.loadL (v := .slice (A13) ((q.procs).length) (cp14)) ty22 0 rg rfl rfl rfl rfl rfl ?_
  refine JJ.lenSlice ss22 rg rfl rfl rfl ?_
  refine JJ.bin rg rfl rfl rfl rfl rfl ?_
  refine JJ.move rg rfl rfl rfl ?_
  refine JJ.split 14 rfl (fun hg1_8 => ?_) (fun hg1_8 => ?_)
  ·
   have hg1_8b := hg1_8
   replace hg1_8 := not_t hg1_8
   replace hg1_8b := hg1_8
   replace hg1_8 := of_decide_eq_false hg1_8
   refine JJ.gskip rg rfl rfl ?_
   refine JJ.gskip rg rfl rfl ?_
   refine JJ.gskip rg rfl rfl ?_
   refine JJ.gskip rg rfl rfl ?_
   refine JJ.gskip rg rfl rfl ?_
   refine JJ.gskip rg rfl rfl ?_
   refine JJ.gskip rg rfl rfl ?_
   refine JJ.pick (b := true) rg rfl rfl rfl rfl ?_
   refine JJ.move rg rfl rfl rfl ?_
   refine JJ.gskip rg rfl rfl ?_
   refine JJ.gskip rg rfl rfl ?_
   refine JJ.gskip rg rfl rfl ?_
   refine JJ.gskip rg rfl rfl ?_
   refine JJ.gskip rg rfl rfl ?_
   refine JJ.gskip rg rfl rfl ?_
   refine JJ.pick (b := true) rg rfl rfl rfl rfl ?_
   refine JJ.move rg rfl rfl rfl ?_
   refine JJ.gskip rg rfl rfl ?_
   refine JJ.gskip rg rfl rfl ?_
   refine JJ.gskip rg rfl rfl ?_
   refine JJ.gskip rg rfl rfl ?_
   refine JJ.gskip rg rfl rfl ?_
   refine JJ.gskip rg rfl rfl ?_
   refine JJ.pick (b := true) rg rfl rfl rfl rfl ?_
   refine JJ.regionEnd ?_
   refine JJ.keep _ ?_ (hk27 _ (.refl _))
   exact ⟨congrArg (fun b => some (Value.bool b)) (by simp only [hg1_8b, xb0, xb1, xb2, xb3, xb4, xb5, xb6, xb7, xb8, xb9, xb10, xb11]), rfl, rfl, trivial⟩
  ·
   have hg1_8b := hg1_8
   replace hg1_8 := not_f hg1_8
   replace hg1_8b := hg1_8
   replace hg1_8 := of_decide_eq_true hg1_8
   refine JJ.fieldAddr (a' := ⟨b25, 3, none⟩) fo26_3 rg rfl rfl rfl rfl ?_
   refine JJ.loadL (v := .slice (A10) ((p.oracles).length) (cp11)) ty24 1 rg rfl rfl rfl rfl rfl ?_
   refine JJ.lenSlice ss24 rg rfl rfl rfl ?_
   refine JJ.fieldAddr (a' := ⟨b26, 3, none⟩) fo26_3 rg rfl rfl rfl rfl ?_
   refine JJ.loadL (v := .slice (A22) ((q.oracles).length) (cp23)) ty24 0 rg rfl rfl rfl rfl rfl ?_
   refine JJ.lenSlice ss24 rg rfl rfl rfl ?_
   refine JJ.bin rg rfl rfl rfl rfl rfl ?_
   refine JJ.pick (b := false) rg rfl rfl rfl rfl ?_
   refine JJ.move rg rfl rfl rfl ?_
   refine JJ.split 23 rfl (fun hg1_17 => ?_) (fun hg1_17 => ?_)
   ·
    have hg1_17b := hg1_17
    replace hg1_17 := not_t hg1_17
    replace hg1_17b := hg1_17
    replace hg1_17 := of_decide_eq_false hg1_17
    refine JJ.gskip rg rfl rfl ?_
    refine JJ.gskip rg rfl rfl ?_
    refine JJ.gskip rg rfl rfl ?_
    refine JJ.gskip rg rfl rfl ?_
    refine JJ.gskip rg rfl rfl ?_
    refine JJ.gskip rg rfl rfl ?_
    refine JJ.pick (b := true) rg rfl rfl rfl rfl ?_
    refine JJ.move rg rfl rfl rfl ?_
    refine JJ.gskip rg rfl rfl ?_
    refine JJ.gskip rg rfl rfl ?_
    refine JJ.gskip rg rfl rfl ?_
    refine JJ.gskip rg rfl rfl ?_
    refine JJ.gskip rg rfl rfl ?_
    refine JJ.gskip rg rfl rfl ?_
    refine JJ.pick (b := true) rg rfl rfl rfl rfl ?_
    refine JJ.regionEnd ?_
    refine JJ.keep _ ?_ (hk27 _ (.refl _))
    exact ⟨congrArg (fun b => some (Value.bool b)) (by simp only [hg1_8b, hg1_17b, xb0, xb1, xb2, xb3, xb4, xb5, xb6, xb7, xb8, xb9, xb10, xb11]), rfl, rfl, trivial⟩
   ·
    have hg1_17b := hg1_17
    replace hg1_17 := not_f hg1_17
    replace hg1_17b := hg1_17
    replace hg1_17 := of_decide_eq_true hg1_17
    refine JJ.fieldAddr (a' := ⟨b25, 1, none⟩) fo26_1 rg rfl rfl rfl rfl ?_
    refine JJ.loadL (v := .slice (A4) ((p.main).length) (cp5)) ty23 1 rg rfl rfl rfl rfl rfl ?_
    refine JJ.fieldAddr (a' := ⟨b26, 1, none⟩) fo26_1 rg rfl rfl rfl rfl ?_
    refine JJ.loadL (v := .slice (A16) ((q.main).length) (cp17)) ty23 0 rg rfl rfl rfl rfl rfl ?_
    refine JJ.callp bo15 rg rfl rfl rfl rfl (sameB _ _ _ p.main hx6 (by first | assumption | omega | (simp; done)) _ _ q.main hx18 (by first | assumption | omega | (simp; done)) (by first | assumption | omega) (by first | assumption | omega)) fun _ I32 hle33 _ => ?_
    refine JJ.not rg rfl rfl rfl ?_
    refine JJ.pick (b := false) rg rfl rfl rfl rfl ?_
    refine JJ.move rg rfl rfl rfl ?_
    refine JJ.split 31 rfl (fun hg1_25 => ?_) (fun hg1_25 => ?_)
    ·
     have hg1_25b := hg1_25
     replace hg1_25 := not_t hg1_25
     replace hg1_25b := hg1_25
     refine JJ.gskip rg rfl rfl ?_
     refine JJ.gskip rg rfl rfl ?_
     refine JJ.gskip rg rfl rfl ?_
     refine JJ.gskip rg rfl rfl ?_
     refine JJ.gskip rg rfl rfl ?_
     refine JJ.gskip rg rfl rfl ?_
     refine JJ.pick (b := true) rg rfl rfl rfl rfl ?_
     refine JJ.regionEnd ?_
     refine JJ.keep _ ?_ (hk27 _ hle33)
     exact ⟨congrArg (fun b => some (Value.bool b)) (by simp only [hg1_8b, hg1_17b, hg1_25b, xb0, xb1, xb2, xb3, xb4, xb5, xb6, xb7, xb8, xb9, xb10, xb11]), rfl, rfl, trivial⟩
    ·
     have hg1_25b := hg1_25
     replace hg1_25 := not_f hg1_25
     replace hg1_25b := hg1_25
     refine JJ.fieldAddr (a' := ⟨b25, 2, none⟩) fo26_2 rg rfl rfl rfl rfl ?_
     refine JJ.loadL (v := .slice (A7) ((p.recover).length) (cp8)) ty23 1 rg rfl rfl rfl rfl rfl ?_
     refine JJ.fieldAddr (a' := ⟨b26, 2, none⟩) fo26_2 rg rfl rfl rfl rfl ?_
     refine JJ.loadL (v := .slice (A19) ((q.recover).length) (cp20)) ty23 0 rg rfl rfl rfl rfl rfl ?_
     refine JJ.callp bo15 rg rfl rfl rfl rfl (sameB _ _ _ p.recover (hx9.mono hle33) (by first | assumption | omega | (simp; done)) _ _ q.recover (hx21.mono hle33) (by first | assumption | omega | (simp; done)) (by first | assumption | omega) (by first | assumption | omega)) fun _ I36 hle37 _ => ?_
     refine JJ.not rg rfl rfl rfl ?_
     refine JJ.pick (b := false) rg rfl rfl rfl rfl ?_
     refine JJ.regionEnd ?_
     refine JJ.keep _ ?_ (hk27 _ (hle33.trans hle37))
     exact ⟨congrArg (fun b => some (Value.bool b)) (by simp only [hg1_8b, hg1_17b, hg1_25b, xb0, xb1, xb2, xb3, xb4, xb5, xb6, xb7, xb8, xb9, xb10, xb11]), rfl, rfl, trivial⟩
 ·
  intro I28 hle29
  refine JJ.cond2 rfl (fun hc1 => ?_) (fun hc1 => ?_)
  ·
   have hc1b := hc1
   refine JJ.seq ?_
   refine JJ.region rfl fun rg => ?_
   refine JJ.assign rg rfl rfl rfl ?_
   refine JJ.regionEnd ?_
   have hF : F_same p q = false := by simp only [F_same, hc1b, xb0, xb1, xb2, xb3, xb4, xb5, xb6, xb7, xb8, xb9, xb10, xb11]
   refine JJ.ret1 rfl Try.func7 rfl rfl (fun h h_ => ⟨(), trivial, (by rw [hF]), trivial⟩)
  ·
   have hc1b := hc1
   have hlen : p.procs.length = q.procs.length ∧ p.oracles.length = q.oracles.length := by have h9 := hc1b; simp only [Bool.or_eq_false_iff, Bool.not_eq_false', decide_eq_true_eq] at h9; omega
   refine JJ.skip ?_
   refine JJ.seq ?_
   refine JJ.seq ?_
   refine JJ.region rfl fun rg => ?_
   refine JJ.assign rg rfl rfl rfl ?_
   refine JJ.regionEnd ?_
   refine JJ.cut (X := Hp) (fun z => [(2, .pointer (some ⟨b25, 0, none⟩)), (3, .pointer (some ⟨b26, 0, none⟩))]) (fun z => z) (fun z => [blk b26 (.cells ([.slice (A13) ((q.procs).length) (cp14), .slice (A16) ((q.main).length) (cp17), .slice (A19) ((q.recover).length) (cp20), .slice (A22) ((q.oracles).length) (cp23)]).toArray 26), blk b25 (.cells ([.slice (A1) ((p.procs).length) (cp2), .slice (A4) ((p.main).length) (cp5), .slice (A7) ((p.recover).length) (cp8), .slice (A10) ((p.oracles).length) (cp11)]).toArray 26)])
    (fun z => Hp.le (I28) z ∧ F_same_l0 q 0 p.procs = .inr ()) (fun hk46 => ?_) ?_
   ·
    refine JJ.block ?_
    refine JJ.induct (X := Nat × Hp) (fun z => [(2, .pointer (some ⟨b25, 0, none⟩)), (3, .pointer (some ⟨b26, 0, none⟩)), (5, .int .i64 (((z.1 : Nat) : Int)))]) (fun z => z.2) (fun z => [blk b26 (.cells ([.slice (A13) ((q.procs).length) (cp14), .slice (A16) ((q.main).length) (cp17), .slice (A19) ((q.recover).length) (cp20), .slice (A22) ((q.oracles).length) (cp23)]).toArray 26), blk b25 (.cells ([.slice (A1) ((p.procs).length) (cp2), .slice (A4) ((p.main).length) (cp5), .slice (A7) ((p.recover).length) (cp8), .slice (A10) ((p.oracles).length) (cp11)]).toArray 26)])
     (fun z => z.1 ≤ (p.procs).length ∧ Hp.le (I28) z.2 ∧ F_same_l0 q 0 p.procs = F_same_l0 q z.1 (List.drop z.1 p.procs)) (fun z => (p.procs).length - z.1)
     (0, I28) ⟨Nat.zero_le _, .refl _, by rw [List.drop_zero]⟩
     (fun h => JJ.keep _ (by repeat (first | exact trivial | refine ⟨rfl, ?_⟩)) h) ?_
    rintro ⟨i39, I41⟩ ⟨hi44, hle42, hsp43⟩ ih45
    try dsimp only at hi44 hle42 hsp43 ih45 ⊢
    rcases Nat.lt_or_ge i39 ((p.procs).length) with hlt_i39 | hge_i39
    ·
     obtain ⟨d40, hd_d40⟩ : ∃ d40, (p.procs)[i39]? = some d40 := ⟨_, List.getElem?_eq_getElem hlt_i39⟩
     have hdr_i39 : List.drop i39 p.procs = d40 :: List.drop (i39 + 1) p.procs := drop_cons hd_d40
     have hz47 := Pc.szl_mem (List.mem_of_getElem? hd_d40)
     have hy48 : (d40).sz = St.szl (d40).body + 1 := rfl
     have hl49 := St.szl_len (d40).body
     refine JJ.seq ?_
     refine JJ.seq ?_
     refine JJ.region rfl fun rg => ?_
     refine JJ.move rg rfl rfl rfl ?_
     refine JJ.fieldAddr (a' := ⟨b25, 0, none⟩) fo26_0 rg rfl rfl rfl rfl ?_
     refine JJ.loadL (v := .slice (A1) ((p.procs).length) (cp2)) ty22 1 rg rfl rfl rfl rfl rfl ?_
     refine JJ.lenSlice ss22 rg rfl rfl rfl ?_
     refine JJ.bin (v := .bool true) rg rfl rfl rfl rfl (congrArg (fun b => some (Value.bool b)) (decide_eq_true (by omega))) ?_
     refine JJ.regionEnd ?_
     refine JJ.cond (b := true) rfl ?_
     refine JJ.skip ?_
     refine JJ.seq ?_
     refine JJ.block ?_
     refine JJ.seq ?_
     obtain ⟨a50, cs51, hA52, hcap53, -, hre54, hrow55⟩ := RSl.get (hx3.mono (hle29.trans hle42)) hd_d40
     have hlthd_d40 := (List.getElem?_eq_some_iff.1 hd_d40).1
     obtain ⟨A56, cp57, rfl, hx58⟩ := RQ.open hre54
     have hd59 := getD_some (l := q.procs) (i := i39) (by omega)
     have hz60 := Pc.szl_mem (List.mem_of_getElem? hd59)
     have hy61 : ((q.procs.getD i39 default)).sz = St.szl ((q.procs.getD i39 default)).body + 1 := rfl
     have hl62 := St.szl_len ((q.procs.getD i39 default)).body
     obtain ⟨a63, cs64, hA65, hcap66, -, hre67, hrow68⟩ := RSl.get (hx15.mono (hle29.trans hle42)) hd59
     have hlthd59 := (List.getElem?_eq_some_iff.1 hd59).1
     obtain ⟨A69, cp70, rfl, hx71⟩ := RQ.open hre67
     refine JJ.draw (m := 29) [(2, .pointer (some ⟨b25, 0, none⟩)), (3, .pointer (some ⟨b26, 0, none⟩)), (5, .int .i64 (((i39 : Nat) : Int)))]
      (fun i => match i with | 0 => fun _ v => v = .pointer (some ⟨b25, 0, none⟩) | 1 => fun _ v => v = .slice (A1) ((p.procs).length) (cp2) | 2 => fun _ v => v = .int .i64 (((i39 : Nat) : Int)) | 3 => fun _ v => v = .pointer (some (a50.add (i39 * 2))) | 4 => fun _ v => v = .pointer (some ((a50.add (i39 * 2)).add 0)) | 5 => fun _ v => v = .string (d40.name) | 6 => fun _ v => v = .pointer (some ⟨b26, 0, none⟩) | 7 => fun _ v => v = .slice (A13) ((q.procs).length) (cp14) | 8 => fun _ v => v = .int .i64 (((i39 : Nat) : Int)) | 9 => fun _ v => v = .pointer (some (a63.add (i39 * 2))) | 10 => fun _ v => v = .pointer (some ((a63.add (i39 * 2)).add 0)) | 11 => fun _ v => v = .string (((q.procs.getD i39 default)).name) | 12 => fun _ v => v = .bool (!decide (d40.name.data.toList = (((q.procs.getD i39 default)).name).data.toList)) | 13 => fun _ v => v = .bool (!decide (d40.name.data.toList = (((q.procs.getD i39 default)).name).data.toList)) | 14 => fun _ v => v = (bif !decide (d40.name.data.toList = (((q.procs.getD i39 default)).name).data.toList) then undef else (Value.pointer (some ⟨b25, 0, none⟩))) | 15 => fun _ v => v = (bif !decide (d40.name.data.toList = (((q.procs.getD i39 default)).name).data.toList) then undef else (Value.slice (A1) ((p.procs).length) (cp2))) | 16 => fun _ v => v = (bif !decide (d40.name.data.toList = (((q.procs.getD i39 default)).name).data.toList) then undef else (Value.int .i64 (((i39 : Nat) : Int)))) | 17 => fun _ v => v = (bif !decide (d40.name.data.toList = (((q.procs.getD i39 default)).name).data.toList) then undef else (Value.pointer (some (a50.add (i39 * 2))))) | 18 => fun _ v => v = (bif !decide (d40.name.data.toList = (((q.procs.getD i39 default)).name).data.toList) then undef else (Value.pointer (some ((a50.add (i39 * 2)).add 1)))) | 19 => fun _ v => v = (bif !decide (d40.name.data.toList = (((q.procs.getD i39 default)).name).data.toList) then undef else (Value.slice (A56) ((d40.body).length) (cp57))) | 20 => fun _ v => v = (bif !decide (d40.name.data.toList = (((q.procs.getD i39 default)).name).data.toList) then undef else (Value.pointer (some ⟨b26, 0, none⟩))) | 21 => fun _ v => v = (bif !decide (d40.name.data.toList = (((q.procs.getD i39 default)).name).data.toList) then undef else (Value.slice (A13) ((q.procs).length) (cp14))) | 22 => fun _ v => v = (bif !decide (d40.name.data.toList = (((q.procs.getD i39 default)).name).data.toList) then undef else (Value.int .i64 (((i39 : Nat) : Int)))) | 23 => fun _ v => v = (bif !decide (d40.name.data.toList = (((q.procs.getD i39 default)).name).data.toList) then undef else (Value.pointer (some (a63.add (i39 * 2))))) | 24 => fun _ v => v = (bif !decide (d40.name.data.toList = (((q.procs.getD i39 default)).name).data.toList) then undef else (Value.pointer (some ((a63.add (i39 * 2)).add 1)))) | 25 => fun _ v => v = (bif !decide (d40.name.data.toList = (((q.procs.getD i39 default)).name).data.toList) then undef else (Value.slice (A69) ((((q.procs.getD i39 default)).body).length) (cp70))) | 26 => fun _ v => v = (bif !decide (d40.name.data.toList = (((q.procs.getD i39 default)).name).data.toList) then undef else (Value.bool (F_sameB d40.body (((q.procs.getD i39 default)).body)))) | 27 => fun _ v => v = (bif !decide (d40.name.data.toList = (((q.procs.getD i39 default)).name).data.toList) then undef else (Value.bool (!(F_sameB d40.body (((q.procs.getD i39 default)).body))))) | 28 => fun _ v => v = .bool (((!decide (d40.name.data.toList = (((q.procs.getD i39 default)).name).data.toList)) || (!(F_sameB d40.body (((q.procs.getD i39 default)).body))))) | _ => fun _ _ => False) mx rfl rfl ?_ (by repeat (first | exact trivial | refine ⟨rfl, ?_⟩)) (fun rg => ?_) (fun rg => ?_)
     ·
      rintro (_ | _ | _ | _ | _ | _ | _ | _ | _ | _ | _ | _ | _ | _ | _ | _ | _ | _ | _ | _ | _ | _ | _ | _ | _ | _ | _ | _ | _ | i) I1_ I2_ v l h
      · exact h
      · exact h
      · exact h
      · exact h
      · exact h
      · exact h
      · exact h
      · exact h
      · exact h
      · exact h
      · exact h
      · exact h
      · exact h
      · exact h
      · exact h
      · exact h
      · exact h
      · exact h
      · exact h
      · exact h
      · exact h
      · exact h
      · exact h
      · exact h
      · exact h
      · exact h
      · exact h
      · exact h
      · exact h
      · exact h
     ·
      refine ⟨?_, ?_, ?_, ?_, ?_, ?_, ?_, ?_, ?_, ?_, ?_, ?_, ?_, ?_, ?_, ?_, ?_, ?_, ?_, ?_, ?_, ?_, ?_, ?_, ?_, ?_, ?_, ?_, ?_, trivial⟩
      ·
       intro is E2 I2_ hle_ hb hd kk_
       obtain ⟨hb2, hb3, hb5, -⟩ := hb
       refine JJ.fieldAddr (a' := ⟨b25, 0, none⟩) fo26_0 rg rfl rfl hb2 rfl (kk_ _ _ (.refl _) rfl)
      ·
       intro is E2 I2_ hle_ hb hd kk_
       obtain ⟨hb2, hb3, hb5, -⟩ := hb
       obtain ⟨d0, v0, e0, g0, s0⟩ := hd 0 (by decide)
       cases e0
       subst s0
       refine JJ.loadL (v := .slice (A1) ((p.procs).length) (cp2)) ty22 1 rg rfl rfl g0 rfl rfl (kk_ _ _ (.refl _) rfl)
      ·
       intro is E2 I2_ hle_ hb hd kk_
       obtain ⟨hb2, hb3, hb5, -⟩ := hb
       refine JJ.move rg rfl rfl hb5 (kk_ _ _ (.refl _) rfl)
      ·
       intro is E2 I2_ hle_ hb hd kk_
       obtain ⟨hb2, hb3, hb5, -⟩ := hb
       obtain ⟨d1, v1, e1, g1, s1⟩ := hd 1 (by decide)
       cases e1
       subst s1
       obtain ⟨d2, v2, e2, g2, s2⟩ := hd 2 (by decide)
       cases e2
       subst s2
       refine JJ.indexAddrA hA52 (a' := a50.add (i39 * 2)) eo22 rg rfl rfl g1 g2 (by omega) (by omega) rfl (kk_ _ _ (.refl _) rfl)
      ·
       intro is E2 I2_ hle_ hb hd kk_
       obtain ⟨hb2, hb3, hb5, -⟩ := hb
       obtain ⟨d3, v3, e3, g3, s3⟩ := hd 3 (by decide)
       cases e3
       subst s3
       refine JJ.fieldAddr (a' := (a50.add (i39 * 2)).add 0) fo44_0 rg rfl rfl g3 rfl (kk_ _ _ (.refl _) rfl)
      ·
       intro is E2 I2_ hle_ hb hd kk_
       obtain ⟨hb2, hb3, hb5, -⟩ := hb
       obtain ⟨d4, v4, e4, g4, s4⟩ := hd 4 (by decide)
       cases e4
       subst s4
       refine JJ.loadI (v := .string (d40.name)) ty9 rg rfl rfl g4 (Row.drop (hrow55.mono hle_) 0) rfl (kk_ _ _ (.refl _) rfl)
      ·
       intro is E2 I2_ hle_ hb hd kk_
       obtain ⟨hb2, hb3, hb5, -⟩ := hb
       refine JJ.fieldAddr (a' := ⟨b26, 0, none⟩) fo26_0 rg rfl rfl hb3 rfl (kk_ _ _ (.refl _) rfl)
      ·
       intro is E2 I2_ hle_ hb hd kk_
       obtain ⟨hb2, hb3, hb5, -⟩ := hb
       obtain ⟨d6, v6, e6, g6, s6⟩ := hd 6 (by decide)
       cases e6
       subst s6
       refine JJ.loadL (v := .slice (A13) ((q.procs).length) (cp14)) ty22 0 rg rfl rfl g6 rfl rfl (kk_ _ _ (.refl _) rfl)
      ·
       intro is E2 I2_ hle_ hb hd kk_
       obtain ⟨hb2, hb3, hb5, -⟩ := hb
       refine JJ.move rg rfl rfl hb5 (kk_ _ _ (.refl _) rfl)
      ·
       intro is E2 I2_ hle_ hb hd kk_
       obtain ⟨hb2, hb3, hb5, -⟩ := hb
       obtain ⟨d7, v7, e7, g7, s7⟩ := hd 7 (by decide)
       cases e7
       subst s7
       obtain ⟨d8, v8, e8, g8, s8⟩ := hd 8 (by decide)
       cases e8
       subst s8
       refine JJ.indexAddrA hA65 (a' := a63.add (i39 * 2)) eo22 rg rfl rfl g7 g8 (by omega) (by omega) rfl (kk_ _ _ (.refl _) rfl)
      ·
       intro is E2 I2_ hle_ hb hd kk_
       obtain ⟨hb2, hb3, hb5, -⟩ := hb
       obtain ⟨d9, v9, e9, g9, s9⟩ := hd 9 (by decide)
       cases e9
       subst s9
       refine JJ.fieldAddr (a' := (a63.add (i39 * 2)).add 0) fo44_0 rg rfl rfl g9 rfl (kk_ _ _ (.refl _) rfl)
      ·
       intro is E2 I2_ hle_ hb hd kk_
       obtain ⟨hb2, hb3, hb5, -⟩ := hb
       obtain ⟨d10, v10, e10, g10, s10⟩ := hd 10 (by decide)
       cases e10
       subst s10
       refine JJ.loadI (v := .string (((q.procs.getD i39 default)).name)) ty9 rg rfl rfl g10 (Row.drop (hrow68.mono hle_) 0) rfl (kk_ _ _ (.refl _) rfl)
      ·
       intro is E2 I2_ hle_ hb hd kk_
       obtain ⟨hb2, hb3, hb5, -⟩ := hb
       obtain ⟨d5, v5, e5, g5, s5⟩ := hd 5 (by decide)
       cases e5
       subst s5
       obtain ⟨d11, v11, e11, g11, s11⟩ := hd 11 (by decide)
       cases e11
       subst s11
       refine JJ.bin rg rfl rfl g5 g11 rfl (kk_ _ _ (.refl _) rfl)
      ·
       intro is E2 I2_ hle_ hb hd kk_
       obtain ⟨hb2, hb3, hb5, -⟩ := hb
       obtain ⟨d12, v12, e12, g12, s12⟩ := hd 12 (by decide)
       cases e12
       subst s12
       refine JJ.move rg rfl rfl g12 (kk_ _ _ (.refl _) rfl)
      ·
       intro is E2 I2_ hle_ hb hd kk_
       obtain ⟨hb2, hb3, hb5, -⟩ := hb
       obtain ⟨d13, v13, e13, g13, s13⟩ := hd 13 (by decide)
       cases e13
       subst s13
       rcases Bool.eq_false_or_eq_true (!decide (d40.name.data.toList = (((q.procs.getD i39 default)).name).data.toList)) with hgb | hgb
       ·
        rw [hgb] at g13
        refine JJ.gskip rg rfl (wants_of rfl g13) (kk_ _ _ (.refl _) (by first | rfl | simp only [hgb, xb0, xb1, xb2, xb3, xb4, xb5, xb6, xb7, xb8, xb9, xb10, xb11]))
       ·
        rw [hgb] at g13
        refine JJ.fieldAddr (a' := ⟨b25, 0, none⟩) fo26_0 rg rfl (wants_of rfl g13) hb2 rfl (kk_ _ _ (.refl _) (by first | rfl | simp only [hgb, xb0, xb1, xb2, xb3, xb4, xb5, xb6, xb7, xb8, xb9, xb10, xb11]))
      ·
       intro is E2 I2_ hle_ hb hd kk_
       obtain ⟨hb2, hb3, hb5, -⟩ := hb
       obtain ⟨d13, v13, e13, g13, s13⟩ := hd 13 (by decide)
       cases e13
       subst s13
       obtain ⟨d14, v14, e14, g14, s14⟩ := hd 14 (by decide)
       cases e14
       subst s14
       rcases Bool.eq_false_or_eq_true (!decide (d40.name.data.toList = (((q.procs.getD i39 default)).name).data.toList)) with hgb | hgb
       ·
        rw [hgb] at g13
        simp only [hgb, cond_true, cond_false] at g14
        refine JJ.gskip rg rfl (wants_of rfl g13) (kk_ _ _ (.refl _) (by first | rfl | simp only [hgb, xb0, xb1, xb2, xb3, xb4, xb5, xb6, xb7, xb8, xb9, xb10, xb11]))
       ·
        rw [hgb] at g13
        simp only [hgb, cond_true, cond_false] at g14
        refine JJ.loadL (v := .slice (A1) ((p.procs).length) (cp2)) ty22 1 rg rfl (wants_of rfl g13) g14 rfl rfl (kk_ _ _ (.refl _) (by first | rfl | simp only [hgb, xb0, xb1, xb2, xb3, xb4, xb5, xb6, xb7, xb8, xb9, xb10, xb11]))
      ·
       intro is E2 I2_ hle_ hb hd kk_
       obtain ⟨hb2, hb3, hb5, -⟩ := hb
       obtain ⟨d13, v13, e13, g13, s13⟩ := hd 13 (by decide)
       cases e13
       subst s13
       rcases Bool.eq_false_or_eq_true (!decide (d40.name.data.toList = (((q.procs.getD i39 default)).name).data.toList)) with hgb | hgb
       ·
        rw [hgb] at g13
        refine JJ.gskip rg rfl (wants_of rfl g13) (kk_ _ _ (.refl _) (by first | rfl | simp only [hgb, xb0, xb1, xb2, xb3, xb4, xb5, xb6, xb7, xb8, xb9, xb10, xb11]))
       ·
        rw [hgb] at g13
        refine JJ.move rg rfl (wants_of rfl g13) hb5 (kk_ _ _ (.refl _) (by first | rfl | simp only [hgb, xb0, xb1, xb2, xb3, xb4, xb5, xb6, xb7, xb8, xb9, xb10, xb11]))
      ·
       intro is E2 I2_ hle_ hb hd kk_
       obtain ⟨hb2, hb3, hb5, -⟩ := hb
       obtain ⟨d13, v13, e13, g13, s13⟩ := hd 13 (by decide)
       cases e13
       subst s13
       obtain ⟨d15, v15, e15, g15, s15⟩ := hd 15 (by decide)
       cases e15
       subst s15
       obtain ⟨d16, v16, e16, g16, s16⟩ := hd 16 (by decide)
       cases e16
       subst s16
       rcases Bool.eq_false_or_eq_true (!decide (d40.name.data.toList = (((q.procs.getD i39 default)).name).data.toList)) with hgb | hgb
       ·
        rw [hgb] at g13
        simp only [hgb, cond_true, cond_false] at g15
        simp only [hgb, cond_true, cond_false] at g16
        refine JJ.gskip rg rfl (wants_of rfl g13) (kk_ _ _ (.refl _) (by first | rfl | simp only [hgb, xb0, xb1, xb2, xb3, xb4, xb5, xb6, xb7, xb8, xb9, xb10, xb11]))
       ·
        rw [hgb] at g13
        simp only [hgb, cond_true, cond_false] at g15
        simp only [hgb, cond_true, cond_false] at g16
        refine JJ.indexAddrA hA52 (a' := a50.add (i39 * 2)) eo22 rg rfl (wants_of rfl g13) g15 g16 (by omega) (by omega) rfl (kk_ _ _ (.refl _) (by first | rfl | simp only [hgb, xb0, xb1, xb2, xb3, xb4, xb5, xb6, xb7, xb8, xb9, xb10, xb11]))
      ·
       intro is E2 I2_ hle_ hb hd kk_
       obtain ⟨hb2, hb3, hb5, -⟩ := hb
       obtain ⟨d13, v13, e13, g13, s13⟩ := hd 13 (by decide)
       cases e13
       subst s13
       obtain ⟨d17, v17, e17, g17, s17⟩ := hd 17 (by decide)
       cases e17
       subst s17
       rcases Bool.eq_false_or_eq_true (!decide (d40.name.data.toList = (((q.procs.getD i39 default)).name).data.toList)) with hgb | hgb
       ·
        rw [hgb] at g13
        simp only [hgb, cond_true, cond_false] at g17
        refine JJ.gskip rg rfl (wants_of rfl g13) (kk_ _ _ (.refl _) (by first | rfl | simp only [hgb, xb0, xb1, xb2, xb3, xb4, xb5, xb6, xb7, xb8, xb9, xb10, xb11]))
       ·
        rw [hgb] at g13
        simp only [hgb, cond_true, cond_false] at g17
        refine JJ.fieldAddr (a' := (a50.add (i39 * 2)).add 1) fo44_1 rg rfl (wants_of rfl g13) g17 rfl (kk_ _ _ (.refl _) (by first | rfl | simp only [hgb, xb0, xb1, xb2, xb3, xb4, xb5, xb6, xb7, xb8, xb9, xb10, xb11]))
      ·
       intro is E2 I2_ hle_ hb hd kk_
       obtain ⟨hb2, hb3, hb5, -⟩ := hb
       obtain ⟨d13, v13, e13, g13, s13⟩ := hd 13 (by decide)
       cases e13
       subst s13
       obtain ⟨d18, v18, e18, g18, s18⟩ := hd 18 (by decide)
       cases e18
       subst s18
       rcases Bool.eq_false_or_eq_true (!decide (d40.name.data.toList = (((q.procs.getD i39 default)).name).data.toList)) with hgb | hgb
       ·
        rw [hgb] at g13
        simp only [hgb, cond_true, cond_false] at g18
        refine JJ.gskip rg rfl (wants_of rfl g13) (kk_ _ _ (.refl _) (by first | rfl | simp only [hgb, xb0, xb1, xb2, xb3, xb4, xb5, xb6, xb7, xb8, xb9, xb10, xb11]))
       ·
        rw [hgb] at g13
        simp only [hgb, cond_true, cond_false] at g18
        refine JJ.loadI (v := .slice (A56) ((d40.body).length) (cp57)) ty23 rg rfl (wants_of rfl g13) g18 (Row.drop (hrow55.mono hle_) 1) rfl (kk_ _ _ (.refl _) (by first | rfl | simp only [hgb, xb0, xb1, xb2, xb3, xb4, xb5, xb6, xb7, xb8, xb9, xb10, xb11]))
      ·
       intro is E2 I2_ hle_ hb hd kk_
       obtain ⟨hb2, hb3, hb5, -⟩ := hb
       obtain ⟨d13, v13, e13, g13, s13⟩ := hd 13 (by decide)
       cases e13
       subst s13
       rcases Bool.eq_false_or_eq_true (!decide (d40.name.data.toList = (((q.procs.getD i39 default)).name).data.toList)) with hgb | hgb
       ·
        rw [hgb] at g13
        refine JJ.gskip rg rfl (wants_of rfl g13) (kk_ _ _ (.refl _) (by first | rfl | simp only [hgb, xb0, xb1, xb2, xb3, xb4, xb5, xb6, xb7, xb8, xb9, xb10, xb11]))
       ·
        rw [hgb] at g13
        refine JJ.fieldAddr (a' := ⟨b26, 0, none⟩) fo26_0 rg rfl (wants_of rfl g13) hb3 rfl (kk_ _ _ (.refl _) (by first | rfl | simp only [hgb, xb0, xb1, xb2, xb3, xb4, xb5, xb6, xb7, xb8, xb9, xb10, xb11]))
      ·
       intro is E2 I2_ hle_ hb hd kk_
       obtain ⟨hb2, hb3, hb5, -⟩ := hb
       obtain ⟨d13, v13, e13, g13, s13⟩ := hd 13 (by decide)
       cases e13
       subst s13
       obtain ⟨d20, v20, e20, g20, s20⟩ := hd 20 (by decide)
       cases e20
       subst s20
       rcases Bool.eq_false_or_eq_true (!decide (d40.name.data.toList = (((q.procs.getD i39 default)).name).data.toList)) with hgb | hgb
       ·
        rw [hgb] at g13
        simp only [hgb, cond_true, cond_false] at g20
        refine JJ.gskip rg rfl (wants_of rfl g13) (kk_ _ _ (.refl _) (by first | rfl | simp only [hgb, xb0, xb1, xb2, xb3, xb4, xb5, xb6, xb7, xb8, xb9, xb10, xb11]))
       ·
        rw [hgb] at g13
        simp only [hgb, cond_true, cond_false] at g20
        refine JJ.loadL (v := .slice (A13) ((q.procs).length) (cp14)) ty22 0 rg rfl (wants_of rfl g13) g20 rfl rfl (kk_ _ _ (.refl _) (by first | rfl | simp only [hgb, xb0, xb1, xb2, xb3, xb4, xb5, xb6, xb7, xb8, xb9, xb10, xb11]))
      ·
       intro is E2 I2_ hle_ hb hd kk_
       obtain ⟨hb2, hb3, hb5, -⟩ := hb
       obtain ⟨d13, v13, e13, g13, s13⟩ := hd 13 (by decide)
       cases e13
       subst s13
       rcases Bool.eq_false_or_eq_true (!decide (d40.name.data.toList = (((q.procs.getD i39 default)).name).data.toList)) with hgb | hgb
       ·
        rw [hgb] at g13
        refine JJ.gskip rg rfl (wants_of rfl g13) (kk_ _ _ (.refl _) (by first | rfl | simp only [hgb, xb0, xb1, xb2, xb3, xb4, xb5, xb6, xb7, xb8, xb9, xb10, xb11]))
       ·
        rw [hgb] at g13
        refine JJ.move rg rfl (wants_of rfl g13) hb5 (kk_ _ _ (.refl _) (by first | rfl | simp only [hgb, xb0, xb1, xb2, xb3, xb4, xb5, xb6, xb7, xb8, xb9, xb10, xb11]))
      ·
       intro is E2 I2_ hle_ hb hd kk_
       obtain ⟨hb2, hb3, hb5, -⟩ := hb
       obtain ⟨d13, v13, e13, g13, s13⟩ := hd 13 (by decide)
       cases e13
       subst s13
       obtain ⟨d21, v21, e21, g21, s21⟩ := hd 21 (by decide)
       cases e21
       subst s21
       obtain ⟨d22, v22, e22, g22, s22⟩ := hd 22 (by decide)
       cases e22
       subst s22
       rcases Bool.eq_false_or_eq_true (!decide (d40.name.data.toList = (((q.procs.getD i39 default)).name).data.toList)) with hgb | hgb
       ·
        rw [hgb] at g13
        simp only [hgb, cond_true, cond_false] at g21
        simp only [hgb, cond_true, cond_false] at g22
        refine JJ.gskip rg rfl (wants_of rfl g13) (kk_ _ _ (.refl _) (by first | rfl | simp only [hgb, xb0, xb1, xb2, xb3, xb4, xb5, xb6, xb7, xb8, xb9, xb10, xb11]))
       ·
        rw [hgb] at g13
        simp only [hgb, cond_true, cond_false] at g21
        simp only [hgb, cond_true, cond_false] at g22
        refine JJ.indexAddrA hA65 (a' := a63.add (i39 * 2)) eo22 rg rfl (wants_of rfl g13) g21 g22 (by omega) (by omega) rfl (kk_ _ _ (.refl _) (by first | rfl | simp only [hgb, xb0, xb1, xb2, xb3, xb4, xb5, xb6, xb7, xb8, xb9, xb10, xb11]))
      ·
       intro is E2 I2_ hle_ hb hd kk_
       obtain ⟨hb2, hb3, hb5, -⟩ := hb
       obtain ⟨d13, v13, e13, g13, s13⟩ := hd 13 (by decide)
       cases e13
       subst s13
       obtain ⟨d23, v23, e23, g23, s23⟩ := hd 23 (by decide)
       cases e23
       subst s23
       rcases Bool.eq_false_or_eq_true (!decide (d40.name.data.toList = (((q.procs.getD i39 default)).name).data.toList)) with hgb | hgb
       ·
        rw [hgb] at g13
        simp only [hgb, cond_true, cond_false] at g23
        refine JJ.gskip rg rfl (wants_of rfl g13) (kk_ _ _ (.refl _) (by first | rfl | simp only [hgb, xb0, xb1, xb2, xb3, xb4, xb5, xb6, xb7, xb8, xb9, xb10, xb11]))
       ·
        rw [hgb] at g13
        simp only [hgb, cond_true, cond_false] at g23
        refine JJ.fieldAddr (a' := (a63.add (i39 * 2)).add 1) fo44_1 rg rfl (wants_of rfl g13) g23 rfl (kk_ _ _ (.refl _) (by first | rfl | simp only [hgb, xb0, xb1, xb2, xb3, xb4, xb5, xb6, xb7, xb8, xb9, xb10, xb11]))
      ·
       intro is E2 I2_ hle_ hb hd kk_
       obtain ⟨hb2, hb3, hb5, -⟩ := hb
       obtain ⟨d13, v13, e13, g13, s13⟩ := hd 13 (by decide)
       cases e13
       subst s13
       obtain ⟨d24, v24, e24, g24, s24⟩ := hd 24 (by decide)
       cases e24
       subst s24
       rcases Bool.eq_false_or_eq_true (!decide (d40.name.data.toList = (((q.procs.getD i39 default)).name).data.toList)) with hgb | hgb
       ·
        rw [hgb] at g13
        simp only [hgb, cond_true, cond_false] at g24
        refine JJ.gskip rg rfl (wants_of rfl g13) (kk_ _ _ (.refl _) (by first | rfl | simp only [hgb, xb0, xb1, xb2, xb3, xb4, xb5, xb6, xb7, xb8, xb9, xb10, xb11]))
       ·
        rw [hgb] at g13
        simp only [hgb, cond_true, cond_false] at g24
        refine JJ.loadI (v := .slice (A69) ((((q.procs.getD i39 default)).body).length) (cp70)) ty23 rg rfl (wants_of rfl g13) g24 (Row.drop (hrow68.mono hle_) 1) rfl (kk_ _ _ (.refl _) (by first | rfl | simp only [hgb, xb0, xb1, xb2, xb3, xb4, xb5, xb6, xb7, xb8, xb9, xb10, xb11]))
      ·
       intro is E2 I2_ hle_ hb hd kk_
       obtain ⟨hb2, hb3, hb5, -⟩ := hb
       obtain ⟨d13, v13, e13, g13, s13⟩ := hd 13 (by decide)
       cases e13
       subst s13
       obtain ⟨d19, v19, e19, g19, s19⟩ := hd 19 (by decide)
       cases e19
       subst s19
       obtain ⟨d25, v25, e25, g25, s25⟩ := hd 25 (by decide)
       cases e25
       subst s25
       rcases Bool.eq_false_or_eq_true (!decide (d40.name.data.toList = (((q.procs.getD i39 default)).name).data.toList)) with hgb | hgb
       ·
        rw [hgb] at g13
        simp only [hgb, cond_true, cond_false] at g19
        simp only [hgb, cond_true, cond_false] at g25
        refine JJ.gskip rg rfl (wants_of rfl g13) (kk_ _ _ (.refl _) (by first | rfl | simp only [hgb, xb0, xb1, xb2, xb3, xb4, xb5, xb6, xb7, xb8, xb9, xb10, xb11]))
       ·
        rw [hgb] at g13
        simp only [hgb, cond_true, cond_false] at g19
        simp only [hgb, cond_true, cond_false] at g25
        refine JJ.callp bo15 rg rfl (wants_of rfl g13) rfl (evL_cons g19 (evL_cons g25 rfl)) (sameB _ _ _ d40.body (hx58.mono hle_) (by first | assumption | omega | (simp; done)) _ _ (((q.procs.getD i39 default)).body) (hx71.mono hle_) (by first | assumption | omega | (simp; done)) (by first | assumption | omega) (by first | assumption | omega)) fun _ I74 hle75 _ => (kk_ _ _ hle75 (by first | rfl | simp only [hgb, xb0, xb1, xb2, xb3, xb4, xb5, xb6, xb7, xb8, xb9, xb10, xb11]))
      ·
       intro is E2 I2_ hle_ hb hd kk_
       obtain ⟨hb2, hb3, hb5, -⟩ := hb
       obtain ⟨d13, v13, e13, g13, s13⟩ := hd 13 (by decide)
       cases e13
       subst s13
       obtain ⟨d26, v26, e26, g26, s26⟩ := hd 26 (by decide)
       cases e26
       subst s26
       rcases Bool.eq_false_or_eq_true (!decide (d40.name.data.toList = (((q.procs.getD i39 default)).name).data.toList)) with hgb | hgb
       ·
        rw [hgb] at g13
        simp only [hgb, cond_true, cond_false] at g26
        refine JJ.gskip rg rfl (wants_of rfl g13) (kk_ _ _ (.refl _) (by first | rfl | simp only [hgb, xb0, xb1, xb2, xb3, xb4, xb5, xb6, xb7, xb8, xb9, xb10, xb11]))
       ·
        rw [hgb] at g13
        simp only [hgb, cond_true, cond_false] at g26
        refine JJ.not rg rfl (wants_of rfl g13) g26 (kk_ _ _ (.refl _) (by first | rfl | simp only [hgb, xb0, xb1, xb2, xb3, xb4, xb5, xb6, xb7, xb8, xb9, xb10, xb11]))
      ·
       intro is E2 I2_ hle_ hb hd kk_
       obtain ⟨hb2, hb3, hb5, -⟩ := hb
       obtain ⟨d13, v13, e13, g13, s13⟩ := hd 13 (by decide)
       cases e13
       subst s13
       obtain ⟨d27, v27, e27, g27, s27⟩ := hd 27 (by decide)
       cases e27
       subst s27
       rcases Bool.eq_false_or_eq_true (!decide (d40.name.data.toList = (((q.procs.getD i39 default)).name).data.toList)) with hgb | hgb
       ·
        rw [hgb] at g13
        simp only [hgb, cond_true, cond_false] at g27
        refine JJ.pick (b := true) rg rfl rfl g13 rfl (kk_ _ _ (.refl _) (by first | rfl | simp only [hgb, xb0, xb1, xb2, xb3, xb4, xb5, xb6, xb7, xb8, xb9, xb10, xb11]))
       ·
        rw [hgb] at g13
        simp only [hgb, cond_true, cond_false] at g27
        refine JJ.pick (b := false) rg rfl rfl g13 g27 (kk_ _ _ (.refl _) (by first | rfl | simp only [hgb, xb0, xb1, xb2, xb3, xb4, xb5, xb6, xb7, xb8, xb9, xb10, xb11]))
     intro vs I77 hle76 hs_
     obtain ⟨hv0, hv1, hv2, hv3, hv4, hv5, hv6, hv7, hv8, hv9, hv10, hv11, hv12, hv13, hv14, hv15, hv16, hv17, hv18, hv19, hv20, hv21, hv22, hv23, hv24, hv25, hv26, hv27, hv28, -⟩ := hs_
     refine JJ.keep [(2, .pointer (some ⟨b25, 0, none⟩)), (3, .pointer (some ⟨b26, 0, none⟩)), (5, .int .i64 (((i39 : Nat) : Int))), (74, .bool (((!decide (d40.name.data.toList = (((q.procs.getD i39 default)).name).data.toList)) || (!(F_sameB d40.body (((q.procs.getD i39 default)).body))))))] ⟨rfl, rfl, rfl, congrArg some hv28, trivial⟩ ?_
     refine JJ.regionEnd ?_
     refine JJ.cond2 rfl (fun hc6 => ?_) (fun hc6 => ?_)
     ·
      have hc6b := hc6
      refine JJ.seq ?_
      refine JJ.region rfl fun rg => ?_
      refine JJ.assign rg rfl rfl rfl ?_
      refine JJ.regionEnd ?_
      have hE78 : F_same_l0 q 0 p.procs = .inl false := by rw [hsp43, hdr_i39]; simp only [F_same_l0, hc6b, xb0, xb1, xb2, xb3, xb4, xb5, xb6, xb7, xb8, xb9, xb10, xb11]
      have hF : F_same p q = false := by simp only [F_same, hc1b, hE78, xb0, xb1, xb2, xb3, xb4, xb5, xb6, xb7, xb8, xb9, xb10, xb11]
      refine JJ.ret1 rfl Try.func7 rfl rfl (fun h h_ => ⟨(), trivial, (by rw [hF]), trivial⟩)
     ·
      have hc6b := hc6
      refine JJ.skip ?_
      refine JJ.inBlock ?_
      refine JJ.region rfl fun rg => ?_
      refine JJ.move rg rfl rfl rfl ?_
      refine JJ.binI (z := ((i39 + 1 : Nat) : Int)) rg rfl rfl rfl rfl rfl (wrap_to (by omega) (by omega) (by omega)) ?_
      refine JJ.assign rg rfl rfl rfl ?_
      refine JJ.regionEnd ?_
      have hnx : F_same_l0 q 0 p.procs = F_same_l0 q (i39 + 1) (List.drop (i39 + 1) p.procs) := by rw [hsp43, hdr_i39]; simp only [F_same_l0, hc6b, xb0, xb1, xb2, xb3, xb4, xb5, xb6, xb7, xb8, xb9, xb10, xb11]
      refine JJ.keep _ ?_ (ih45 (i39 + 1, I77) ⟨hlt_i39, (hle42.trans hle76), hnx⟩ (by dsimp only; omega))
      repeat (first | exact trivial | refine ⟨rfl, ?_⟩)
    ·
     have heq_i39 : i39 = (p.procs).length := by omega
     have hdr_i39 : List.drop i39 p.procs = [] := by rw [heq_i39]; exact List.drop_length
     refine JJ.seq ?_
     refine JJ.seq ?_
     refine JJ.region rfl fun rg => ?_
     refine JJ.move rg rfl rfl rfl ?_
     refine JJ.fieldAddr (a' := ⟨b25, 0, none⟩) fo26_0 rg rfl rfl rfl rfl ?_
     refine JJ.loadL (v := .slice (A1) ((p.procs).length) (cp2)) ty22 1 rg rfl rfl rfl rfl rfl ?_
     refine JJ.lenSlice ss22 rg rfl rfl rfl ?_
     refine JJ.bin (v := .bool false) rg rfl rfl rfl rfl (congrArg (fun b => some (Value.bool b)) (decide_eq_false (by omega))) ?_
     refine JJ.regionEnd ?_
     refine JJ.cond (b := false) rfl ?_
     refine JJ.exit rfl ?_
     have hE : F_same_l0 q 0 p.procs = .inr () := by rw [hsp43, hdr_i39]; simp only [F_same_l0, xb0, xb1, xb2, xb3, xb4, xb5, xb6, xb7, xb8, xb9, xb10, xb11]
     refine JJ.keep _ ?_ (hk46 (I41) ⟨hle42, hE⟩)
     repeat (first | exact trivial | refine ⟨rfl, ?_⟩)
   ·
    rintro I79 ⟨hle80, hE81⟩
    try dsimp only at hle80 hE81 ⊢
    refine JJ.seq ?_
    refine JJ.seq ?_
    refine JJ.region rfl fun rg => ?_
    refine JJ.assign rg rfl rfl rfl ?_
    refine JJ.regionEnd ?_
    refine JJ.cut (X := Hp) (fun z => []) (fun z => z) (fun z => [blk b26 (.cells ([.slice (A13) ((q.procs).length) (cp14), .slice (A16) ((q.main).length) (cp17), .slice (A19) ((q.recover).length) (cp20), .slice (A22) ((q.oracles).length) (cp23)]).toArray 26), blk b25 (.cells ([.slice (A1) ((p.procs).length) (cp2), .slice (A4) ((p.main).length) (cp5), .slice (A7) ((p.recover).length) (cp8), .slice (A10) ((p.oracles).length) (cp11)]).toArray 26)])
     (fun z => Hp.le (I79) z ∧ F_same_l2 q 0 p.oracles = .inr ()) (fun hk90 => ?_) ?_
    ·
     refine JJ.block ?_
     refine JJ.induct (X := Nat × Hp) (fun z => [(2, .pointer (some ⟨b25, 0, none⟩)), (3, .pointer (some ⟨b26, 0, none⟩)), (6, .int .i64 (((z.1 : Nat) : Int)))]) (fun z => z.2) (fun z => [blk b26 (.cells ([.slice (A13) ((q.procs).length) (cp14), .slice (A16) ((q.main).length) (cp17), .slice (A19) ((q.recover).length) (cp20), .slice (A22) ((q.oracles).length) (cp23)]).toArray 26), blk b25 (.cells ([.slice (A1) ((p.procs).length) (cp2), .slice (A4) ((p.main).length) (cp5), .slice (A7) ((p.recover).length) (cp8), .slice (A10) ((p.oracles).length) (cp11)]).toArray 26)])
      (fun z => z.1 ≤ (p.oracles).length ∧ Hp.le (I79) z.2 ∧ F_same_l2 q 0 p.oracles = F_same_l2 q z.1 (List.drop z.1 p.oracles)) (fun z => (p.oracles).length - z.1)
      (0, I79) ⟨Nat.zero_le _, .refl _, by rw [List.drop_zero]⟩
      (fun h => JJ.keep _ (by repeat (first | exact trivial | refine ⟨rfl, ?_⟩)) h) ?_
     rintro ⟨i83, I85⟩ ⟨hi88, hle86, hsp87⟩ ih89
     try dsimp only at hi88 hle86 hsp87 ih89 ⊢
     rcases Nat.lt_or_ge i83 ((p.oracles).length) with hlt_i83 | hge_i83
     ·
      obtain ⟨d84, hd_d84⟩ : ∃ d84, (p.oracles)[i83]? = some d84 := ⟨_, List.getElem?_eq_getElem hlt_i83⟩
      have hdr_i83 : List.drop i83 p.oracles = d84 :: List.drop (i83 + 1) p.oracles := drop_cons hd_d84
      have hz91 := Oc.szl_mem (List.mem_of_getElem? hd_d84)
      have hy92 : (d84).sz = (d84).e.sz + 1 := rfl
      refine JJ.seq ?_
      refine JJ.seq ?_
      refine JJ.region rfl fun rg => ?_
      refine JJ.move rg rfl rfl rfl ?_
      refine JJ.fieldAddr (a' := ⟨b25, 3, none⟩) fo26_3 rg rfl rfl rfl rfl ?_
      refine JJ.loadL (v := .slice (A10) ((p.oracles).length) (cp11)) ty24 1 rg rfl rfl rfl rfl rfl ?_
      refine JJ.lenSlice ss24 rg rfl rfl rfl ?_
      refine JJ.bin (v := .bool true) rg rfl rfl rfl rfl (congrArg (fun b => some (Value.bool b)) (decide_eq_true (by omega))) ?_
      refine JJ.regionEnd ?_
      refine JJ.cond (b := true) rfl ?_
      refine JJ.skip ?_
      refine JJ.seq ?_
      refine JJ.block ?_
      refine JJ.seq ?_
      obtain ⟨a93, cs94, hA95, hcap96, -, hre97, hrow98⟩ := RSl.get (hx12.mono (hle29.trans (hle80.trans hle86))) hd_d84
      have hlthd_d84 := (List.getElem?_eq_some_iff.1 hd_d84).1
      obtain ⟨A100, cp101, rfl, hx102⟩ := RO.open hre97
      have hd103 := getD_some (l := q.oracles) (i := i83) (by omega)
      have hz104 := Oc.szl_mem (List.mem_of_getElem? hd103)
      have hy105 : ((q.oracles.getD i83 default)).sz = ((q.oracles.getD i83 default)).e.sz + 1 := rfl
      obtain ⟨a106, cs107, hA108, hcap109, -, hre110, hrow111⟩ := RSl.get (hx24.mono (hle29.trans (hle80.trans hle86))) hd103
      have hlthd103 := (List.getElem?_eq_some_iff.1 hd103).1
      obtain ⟨A113, cp114, rfl, hx115⟩ := RO.open hre110
      refine JJ.draw (m := 29) [(2, .pointer (some ⟨b25, 0, none⟩)), (3, .pointer (some ⟨b26, 0, none⟩)), (6, .int .i64 (((i83 : Nat) : Int)))]
       (fun i => match i with | 0 => fun _ v => v = .pointer (some ⟨b25, 3, none⟩) | 1 => fun _ v => v = .slice (A10) ((p.oracles).length) (cp11) | 2 => fun _ v => v = .int .i64 (((i83 : Nat) : Int)) | 3 => fun _ v => v = .pointer (some (a93.add (i83 * 5))) | 4 => fun _ v => v = .pointer (some ((a93.add (i83 * 5)).add 0)) | 5 => fun _ v => v = .string (d84.name) | 6 => fun _ v => v = .pointer (some ⟨b26, 3, none⟩) | 7 => fun _ v => v = .slice (A22) ((q.oracles).length) (cp23) | 8 => fun _ v => v = .int .i64 (((i83 : Nat) : Int)) | 9 => fun _ v => v = .pointer (some (a106.add (i83 * 5))) | 10 => fun _ v => v = .pointer (some ((a106.add (i83 * 5)).add 0)) | 11 => fun _ v => v = .string (((q.oracles.getD i83 default)).name) | 12 => fun _ v => v = .bool (!decide (d84.name.data.toList = (((q.oracles.getD i83 default)).name).data.toList)) | 13 => fun _ v => v = .bool (!decide (d84.name.data.toList = (((q.oracles.getD i83 default)).name).data.toList)) | 14 => fun _ v => v = (bif !decide (d84.name.data.toList = (((q.oracles.getD i83 default)).name).data.toList) then undef else (Value.pointer (some ⟨b25, 3, none⟩))) | 15 => fun _ v => v = (bif !decide (d84.name.data.toList = (((q.oracles.getD i83 default)).name).data.toList) then undef else (Value.slice (A10) ((p.oracles).length) (cp11))) | 16 => fun _ v => v = (bif !decide (d84.name.data.toList = (((q.oracles.getD i83 default)).name).data.toList) then undef else (Value.int .i64 (((i83 : Nat) : Int)))) | 17 => fun _ v => v = (bif !decide (d84.name.data.toList = (((q.oracles.getD i83 default)).name).data.toList) then undef else (Value.pointer (some (a93.add (i83 * 5))))) | 18 => fun _ v => v = (bif !decide (d84.name.data.toList = (((q.oracles.getD i83 default)).name).data.toList) then undef else (Value.pointer (some ((a93.add (i83 * 5)).add 1)))) | 19 => fun _ v => v = (bif !decide (d84.name.data.toList = (((q.oracles.getD i83 default)).name).data.toList) then undef else (Value.agg #[.int .i64 (d84.e.op), .int .i64 (d84.e.n), .string (d84.e.s), .slice (A100) ((d84.e.x).length) (cp101)])) | 20 => fun _ v => v = (bif !decide (d84.name.data.toList = (((q.oracles.getD i83 default)).name).data.toList) then undef else (Value.pointer (some ⟨b26, 3, none⟩))) | 21 => fun _ v => v = (bif !decide (d84.name.data.toList = (((q.oracles.getD i83 default)).name).data.toList) then undef else (Value.slice (A22) ((q.oracles).length) (cp23))) | 22 => fun _ v => v = (bif !decide (d84.name.data.toList = (((q.oracles.getD i83 default)).name).data.toList) then undef else (Value.int .i64 (((i83 : Nat) : Int)))) | 23 => fun _ v => v = (bif !decide (d84.name.data.toList = (((q.oracles.getD i83 default)).name).data.toList) then undef else (Value.pointer (some (a106.add (i83 * 5))))) | 24 => fun _ v => v = (bif !decide (d84.name.data.toList = (((q.oracles.getD i83 default)).name).data.toList) then undef else (Value.pointer (some ((a106.add (i83 * 5)).add 1)))) | 25 => fun _ v => v = (bif !decide (d84.name.data.toList = (((q.oracles.getD i83 default)).name).data.toList) then undef else (Value.agg #[.int .i64 (((q.oracles.getD i83 default)).e.op), .int .i64 (((q.oracles.getD i83 default)).e.n), .string (((q.oracles.getD i83 default)).e.s), .slice (A113) ((((q.oracles.getD i83 default)).e.x).length) (cp114)])) | 26 => fun _ v => v = (bif !decide (d84.name.data.toList = (((q.oracles.getD i83 default)).name).data.toList) then undef else (Value.bool (F_sameX d84.e (((q.oracles.getD i83 default)).e)))) | 27 => fun _ v => v = (bif !decide (d84.name.data.toList = (((q.oracles.getD i83 default)).name).data.toList) then undef else (Value.bool (!(F_sameX d84.e (((q.oracles.getD i83 default)).e))))) | 28 => fun _ v => v = .bool (((!decide (d84.name.data.toList = (((q.oracles.getD i83 default)).name).data.toList)) || (!(F_sameX d84.e (((q.oracles.getD i83 default)).e))))) | _ => fun _ _ => False) mx rfl rfl ?_ (by repeat (first | exact trivial | refine ⟨rfl, ?_⟩)) (fun rg => ?_) (fun rg => ?_)
      ·
       rintro (_ | _ | _ | _ | _ | _ | _ | _ | _ | _ | _ | _ | _ | _ | _ | _ | _ | _ | _ | _ | _ | _ | _ | _ | _ | _ | _ | _ | _ | i) I1_ I2_ v l h
       · exact h
       · exact h
       · exact h
       · exact h
       · exact h
       · exact h
       · exact h
       · exact h
       · exact h
       · exact h
       · exact h
       · exact h
       · exact h
       · exact h
       · exact h
       · exact h
       · exact h
       · exact h
       · exact h
       · exact h
       · exact h
       · exact h
       · exact h
       · exact h
       · exact h
       · exact h
       · exact h
       · exact h
       · exact h
       · exact h
      ·
       refine ⟨?_, ?_, ?_, ?_, ?_, ?_, ?_, ?_, ?_, ?_, ?_, ?_, ?_, ?_, ?_, ?_, ?_, ?_, ?_, ?_, ?_, ?_, ?_, ?_, ?_, ?_, ?_, ?_, ?_, trivial⟩
       ·
        intro is E2 I2_ hle_ hb hd kk_
        obtain ⟨hb2, hb3, hb6, -⟩ := hb
        refine JJ.fieldAddr (a' := ⟨b25, 3, none⟩) fo26_3 rg rfl rfl hb2 rfl (kk_ _ _ (.refl _) rfl)
       ·
        intro is E2 I2_ hle_ hb hd kk_
        obtain ⟨hb2, hb3, hb6, -⟩ := hb
        obtain ⟨d0, v0, e0, g0, s0⟩ := hd 0 (by decide)
        cases e0
        subst s0
        refine JJ.loadL (v := .slice (A10) ((p.oracles).length) (cp11)) ty24 1 rg rfl rfl g0 rfl rfl (kk_ _ _ (.refl _) rfl)
       ·
        intro is E2 I2_ hle_ hb hd kk_
        obtain ⟨hb2, hb3, hb6, -⟩ := hb
        refine JJ.move rg rfl rfl hb6 (kk_ _ _ (.refl _) rfl)
       ·
        intro is E2 I2_ hle_ hb hd kk_
        obtain ⟨hb2, hb3, hb6, -⟩ := hb
        obtain ⟨d1, v1, e1, g1, s1⟩ := hd 1 (by decide)
        cases e1
        subst s1
        obtain ⟨d2, v2, e2, g2, s2⟩ := hd 2 (by decide)
        cases e2
        subst s2
        refine JJ.indexAddrA hA95 (a' := a93.add (i83 * 5)) eo24 rg rfl rfl g1 g2 (by omega) (by omega) rfl (kk_ _ _ (.refl _) rfl)
       ·
        intro is E2 I2_ hle_ hb hd kk_
        obtain ⟨hb2, hb3, hb6, -⟩ := hb
        obtain ⟨d3, v3, e3, g3, s3⟩ := hd 3 (by decide)
        cases e3
        subst s3
        refine JJ.fieldAddr (a' := (a93.add (i83 * 5)).add 0) fo55_0 rg rfl rfl g3 rfl (kk_ _ _ (.refl _) rfl)
       ·
        intro is E2 I2_ hle_ hb hd kk_
        obtain ⟨hb2, hb3, hb6, -⟩ := hb
        obtain ⟨d4, v4, e4, g4, s4⟩ := hd 4 (by decide)
        cases e4
        subst s4
        refine JJ.loadI (v := .string (d84.name)) ty9 rg rfl rfl g4 (Row.drop (hrow98.mono hle_) 0) rfl (kk_ _ _ (.refl _) rfl)
       ·
        intro is E2 I2_ hle_ hb hd kk_
        obtain ⟨hb2, hb3, hb6, -⟩ := hb
        refine JJ.fieldAddr (a' := ⟨b26, 3, none⟩) fo26_3 rg rfl rfl hb3 rfl (kk_ _ _ (.refl _) rfl)
       ·
        intro is E2 I2_ hle_ hb hd kk_
        obtain ⟨hb2, hb3, hb6, -⟩ := hb
        obtain ⟨d6, v6, e6, g6, s6⟩ := hd 6 (by decide)
        cases e6
        subst s6
        refine JJ.loadL (v := .slice (A22) ((q.oracles).length) (cp23)) ty24 0 rg rfl rfl g6 rfl rfl (kk_ _ _ (.refl _) rfl)
       ·
        intro is E2 I2_ hle_ hb hd kk_
        obtain ⟨hb2, hb3, hb6, -⟩ := hb
        refine JJ.move rg rfl rfl hb6 (kk_ _ _ (.refl _) rfl)
       ·
        intro is E2 I2_ hle_ hb hd kk_
        obtain ⟨hb2, hb3, hb6, -⟩ := hb
        obtain ⟨d7, v7, e7, g7, s7⟩ := hd 7 (by decide)
        cases e7
        subst s7
        obtain ⟨d8, v8, e8, g8, s8⟩ := hd 8 (by decide)
        cases e8
        subst s8
        refine JJ.indexAddrA hA108 (a' := a106.add (i83 * 5)) eo24 rg rfl rfl g7 g8 (by omega) (by omega) rfl (kk_ _ _ (.refl _) rfl)
       ·
        intro is E2 I2_ hle_ hb hd kk_
        obtain ⟨hb2, hb3, hb6, -⟩ := hb
        obtain ⟨d9, v9, e9, g9, s9⟩ := hd 9 (by decide)
        cases e9
        subst s9
        refine JJ.fieldAddr (a' := (a106.add (i83 * 5)).add 0) fo55_0 rg rfl rfl g9 rfl (kk_ _ _ (.refl _) rfl)
       ·
        intro is E2 I2_ hle_ hb hd kk_
        obtain ⟨hb2, hb3, hb6, -⟩ := hb
        obtain ⟨d10, v10, e10, g10, s10⟩ := hd 10 (by decide)
        cases e10
        subst s10
        refine JJ.loadI (v := .string (((q.oracles.getD i83 default)).name)) ty9 rg rfl rfl g10 (Row.drop (hrow111.mono hle_) 0) rfl (kk_ _ _ (.refl _) rfl)
       ·
        intro is E2 I2_ hle_ hb hd kk_
        obtain ⟨hb2, hb3, hb6, -⟩ := hb
        obtain ⟨d5, v5, e5, g5, s5⟩ := hd 5 (by decide)
        cases e5
        subst s5
        obtain ⟨d11, v11, e11, g11, s11⟩ := hd 11 (by decide)
        cases e11
        subst s11
        refine JJ.bin rg rfl rfl g5 g11 rfl (kk_ _ _ (.refl _) rfl)
       ·
        intro is E2 I2_ hle_ hb hd kk_
        obtain ⟨hb2, hb3, hb6, -⟩ := hb
        obtain ⟨d12, v12, e12, g12, s12⟩ := hd 12 (by decide)
        cases e12
        subst s12
        refine JJ.move rg rfl rfl g12 (kk_ _ _ (.refl _) rfl)
       ·
        intro is E2 I2_ hle_ hb hd kk_
        obtain ⟨hb2, hb3, hb6, -⟩ := hb
        obtain ⟨d13, v13, e13, g13, s13⟩ := hd 13 (by decide)
        cases e13
        subst s13
        rcases Bool.eq_false_or_eq_true (!decide (d84.name.data.toList = (((q.oracles.getD i83 default)).name).data.toList)) with hgb | hgb
        ·
         rw [hgb] at g13
         refine JJ.gskip rg rfl (wants_of rfl g13) (kk_ _ _ (.refl _) (by first | rfl | simp only [hgb, xb0, xb1, xb2, xb3, xb4, xb5, xb6, xb7, xb8, xb9, xb10, xb11]))
        ·
         rw [hgb] at g13
         refine JJ.fieldAddr (a' := ⟨b25, 3, none⟩) fo26_3 rg rfl (wants_of rfl g13) hb2 rfl (kk_ _ _ (.refl _) (by first | rfl | simp only [hgb, xb0, xb1, xb2, xb3, xb4, xb5, xb6, xb7, xb8, xb9, xb10, xb11]))
       ·
        intro is E2 I2_ hle_ hb hd kk_
        obtain ⟨hb2, hb3, hb6, -⟩ := hb
        obtain ⟨d13, v13, e13, g13, s13⟩ := hd 13 (by decide)
        cases e13
        subst s13
        obtain ⟨d14, v14, e14, g14, s14⟩ := hd 14 (by decide)
        cases e14
        subst s14
        rcases Bool.eq_false_or_eq_true (!decide (d84.name.data.toList = (((q.oracles.getD i83 default)).name).data.toList)) with hgb | hgb
        ·
         rw [hgb] at g13
         simp only [hgb, cond_true, cond_false] at g14
         refine JJ.gskip rg rfl (wants_of rfl g13) (kk_ _ _ (.refl _) (by first | rfl | simp only [hgb, xb0, xb1, xb2, xb3, xb4, xb5, xb6, xb7, xb8, xb9, xb10, xb11]))
        ·
         rw [hgb] at g13
         simp only [hgb, cond_true, cond_false] at g14
         refine JJ.loadL (v := .slice (A10) ((p.oracles).length) (cp11)) ty24 1 rg rfl (wants_of rfl g13) g14 rfl rfl (kk_ _ _ (.refl _) (by first | rfl | simp only [hgb, xb0, xb1, xb2, xb3, xb4, xb5, xb6, xb7, xb8, xb9, xb10, xb11]))
       ·
        intro is E2 I2_ hle_ hb hd kk_
        obtain ⟨hb2, hb3, hb6, -⟩ := hb
        obtain ⟨d13, v13, e13, g13, s13⟩ := hd 13 (by decide)
        cases e13
        subst s13
        rcases Bool.eq_false_or_eq_true (!decide (d84.name.data.toList = (((q.oracles.getD i83 default)).name).data.toList)) with hgb | hgb
        ·
         rw [hgb] at g13
         refine JJ.gskip rg rfl (wants_of rfl g13) (kk_ _ _ (.refl _) (by first | rfl | simp only [hgb, xb0, xb1, xb2, xb3, xb4, xb5, xb6, xb7, xb8, xb9, xb10, xb11]))
        ·
         rw [hgb] at g13
         refine JJ.move rg rfl (wants_of rfl g13) hb6 (kk_ _ _ (.refl _) (by first | rfl | simp only [hgb, xb0, xb1, xb2, xb3, xb4, xb5, xb6, xb7, xb8, xb9, xb10, xb11]))
       ·
        intro is E2 I2_ hle_ hb hd kk_
        obtain ⟨hb2, hb3, hb6, -⟩ := hb
        obtain ⟨d13, v13, e13, g13, s13⟩ := hd 13 (by decide)
        cases e13
        subst s13
        obtain ⟨d15, v15, e15, g15, s15⟩ := hd 15 (by decide)
        cases e15
        subst s15
        obtain ⟨d16, v16, e16, g16, s16⟩ := hd 16 (by decide)
        cases e16
        subst s16
        rcases Bool.eq_false_or_eq_true (!decide (d84.name.data.toList = (((q.oracles.getD i83 default)).name).data.toList)) with hgb | hgb
        ·
         rw [hgb] at g13
         simp only [hgb, cond_true, cond_false] at g15
         simp only [hgb, cond_true, cond_false] at g16
         refine JJ.gskip rg rfl (wants_of rfl g13) (kk_ _ _ (.refl _) (by first | rfl | simp only [hgb, xb0, xb1, xb2, xb3, xb4, xb5, xb6, xb7, xb8, xb9, xb10, xb11]))
        ·
         rw [hgb] at g13
         simp only [hgb, cond_true, cond_false] at g15
         simp only [hgb, cond_true, cond_false] at g16
         refine JJ.indexAddrA hA95 (a' := a93.add (i83 * 5)) eo24 rg rfl (wants_of rfl g13) g15 g16 (by omega) (by omega) rfl (kk_ _ _ (.refl _) (by first | rfl | simp only [hgb, xb0, xb1, xb2, xb3, xb4, xb5, xb6, xb7, xb8, xb9, xb10, xb11]))
       ·
        intro is E2 I2_ hle_ hb hd kk_
        obtain ⟨hb2, hb3, hb6, -⟩ := hb
        obtain ⟨d13, v13, e13, g13, s13⟩ := hd 13 (by decide)
        cases e13
        subst s13
        obtain ⟨d17, v17, e17, g17, s17⟩ := hd 17 (by decide)
        cases e17
        subst s17
        rcases Bool.eq_false_or_eq_true (!decide (d84.name.data.toList = (((q.oracles.getD i83 default)).name).data.toList)) with hgb | hgb
        ·
         rw [hgb] at g13
         simp only [hgb, cond_true, cond_false] at g17
         refine JJ.gskip rg rfl (wants_of rfl g13) (kk_ _ _ (.refl _) (by first | rfl | simp only [hgb, xb0, xb1, xb2, xb3, xb4, xb5, xb6, xb7, xb8, xb9, xb10, xb11]))
        ·
         rw [hgb] at g13
         simp only [hgb, cond_true, cond_false] at g17
         refine JJ.fieldAddr (a' := (a93.add (i83 * 5)).add 1) fo55_1 rg rfl (wants_of rfl g13) g17 rfl (kk_ _ _ (.refl _) (by first | rfl | simp only [hgb, xb0, xb1, xb2, xb3, xb4, xb5, xb6, xb7, xb8, xb9, xb10, xb11]))
       ·
        intro is E2 I2_ hle_ hb hd kk_
        obtain ⟨hb2, hb3, hb6, -⟩ := hb
        obtain ⟨d13, v13, e13, g13, s13⟩ := hd 13 (by decide)
        cases e13
        subst s13
        obtain ⟨d18, v18, e18, g18, s18⟩ := hd 18 (by decide)
        cases e18
        subst s18
        rcases Bool.eq_false_or_eq_true (!decide (d84.name.data.toList = (((q.oracles.getD i83 default)).name).data.toList)) with hgb | hgb
        ·
         rw [hgb] at g13
         simp only [hgb, cond_true, cond_false] at g18
         refine JJ.gskip rg rfl (wants_of rfl g13) (kk_ _ _ (.refl _) (by first | rfl | simp only [hgb, xb0, xb1, xb2, xb3, xb4, xb5, xb6, xb7, xb8, xb9, xb10, xb11]))
        ·
         rw [hgb] at g13
         simp only [hgb, cond_true, cond_false] at g18
         refine JJ.loadI (v := .agg #[.int .i64 (d84.e.op), .int .i64 (d84.e.n), .string (d84.e.s), .slice (A100) ((d84.e.x).length) (cp101)]) ty53 rg rfl (wants_of rfl g13) g18 (Row.drop (hrow98.mono hle_) 1) rfl (kk_ _ _ (.refl _) (by first | rfl | simp only [hgb, xb0, xb1, xb2, xb3, xb4, xb5, xb6, xb7, xb8, xb9, xb10, xb11]))
       ·
        intro is E2 I2_ hle_ hb hd kk_
        obtain ⟨hb2, hb3, hb6, -⟩ := hb
        obtain ⟨d13, v13, e13, g13, s13⟩ := hd 13 (by decide)
        cases e13
        subst s13
        rcases Bool.eq_false_or_eq_true (!decide (d84.name.data.toList = (((q.oracles.getD i83 default)).name).data.toList)) with hgb | hgb
        ·
         rw [hgb] at g13
         refine JJ.gskip rg rfl (wants_of rfl g13) (kk_ _ _ (.refl _) (by first | rfl | simp only [hgb, xb0, xb1, xb2, xb3, xb4, xb5, xb6, xb7, xb8, xb9, xb10, xb11]))
        ·
         rw [hgb] at g13
         refine JJ.fieldAddr (a' := ⟨b26, 3, none⟩) fo26_3 rg rfl (wants_of rfl g13) hb3 rfl (kk_ _ _ (.refl _) (by first | rfl | simp only [hgb, xb0, xb1, xb2, xb3, xb4, xb5, xb6, xb7, xb8, xb9, xb10, xb11]))
       ·
        intro is E2 I2_ hle_ hb hd kk_
        obtain ⟨hb2, hb3, hb6, -⟩ := hb
        obtain ⟨d13, v13, e13, g13, s13⟩ := hd 13 (by decide)
        cases e13
        subst s13
        obtain ⟨d20, v20, e20, g20, s20⟩ := hd 20 (by decide)
        cases e20
        subst s20
        rcases Bool.eq_false_or_eq_true (!decide (d84.name.data.toList = (((q.oracles.getD i83 default)).name).data.toList)) with hgb | hgb
        ·
         rw [hgb] at g13
         simp only [hgb, cond_true, cond_false] at g20
         refine JJ.gskip rg rfl (wants_of rfl g13) (kk_ _ _ (.refl _) (by first | rfl | simp only [hgb, xb0, xb1, xb2, xb3, xb4, xb5, xb6, xb7, xb8, xb9, xb10, xb11]))
        ·
         rw [hgb] at g13
         simp only [hgb, cond_true, cond_false] at g20
         refine JJ.loadL (v := .slice (A22) ((q.oracles).length) (cp23)) ty24 0 rg rfl (wants_of rfl g13) g20 rfl rfl (kk_ _ _ (.refl _) (by first | rfl | simp only [hgb, xb0, xb1, xb2, xb3, xb4, xb5, xb6, xb7, xb8, xb9, xb10, xb11]))
       ·
        intro is E2 I2_ hle_ hb hd kk_
        obtain ⟨hb2, hb3, hb6, -⟩ := hb
        obtain ⟨d13, v13, e13, g13, s13⟩ := hd 13 (by decide)
        cases e13
        subst s13
        rcases Bool.eq_false_or_eq_true (!decide (d84.name.data.toList = (((q.oracles.getD i83 default)).name).data.toList)) with hgb | hgb
        ·
         rw [hgb] at g13
         refine JJ.gskip rg rfl (wants_of rfl g13) (kk_ _ _ (.refl _) (by first | rfl | simp only [hgb, xb0, xb1, xb2, xb3, xb4, xb5, xb6, xb7, xb8, xb9, xb10, xb11]))
        ·
         rw [hgb] at g13
         refine JJ.move rg rfl (wants_of rfl g13) hb6 (kk_ _ _ (.refl _) (by first | rfl | simp only [hgb, xb0, xb1, xb2, xb3, xb4, xb5, xb6, xb7, xb8, xb9, xb10, xb11]))
       ·
        intro is E2 I2_ hle_ hb hd kk_
        obtain ⟨hb2, hb3, hb6, -⟩ := hb
        obtain ⟨d13, v13, e13, g13, s13⟩ := hd 13 (by decide)
        cases e13
        subst s13
        obtain ⟨d21, v21, e21, g21, s21⟩ := hd 21 (by decide)
        cases e21
        subst s21
        obtain ⟨d22, v22, e22, g22, s22⟩ := hd 22 (by decide)
        cases e22
        subst s22
        rcases Bool.eq_false_or_eq_true (!decide (d84.name.data.toList = (((q.oracles.getD i83 default)).name).data.toList)) with hgb | hgb
        ·
         rw [hgb] at g13
         simp only [hgb, cond_true, cond_false] at g21
         simp only [hgb, cond_true, cond_false] at g22
         refine JJ.gskip rg rfl (wants_of rfl g13) (kk_ _ _ (.refl _) (by first | rfl | simp only [hgb, xb0, xb1, xb2, xb3, xb4, xb5, xb6, xb7, xb8, xb9, xb10, xb11]))
        ·
         rw [hgb] at g13
         simp only [hgb, cond_true, cond_false] at g21
         simp only [hgb, cond_true, cond_false] at g22
         refine JJ.indexAddrA hA108 (a' := a106.add (i83 * 5)) eo24 rg rfl (wants_of rfl g13) g21 g22 (by omega) (by omega) rfl (kk_ _ _ (.refl _) (by first | rfl | simp only [hgb, xb0, xb1, xb2, xb3, xb4, xb5, xb6, xb7, xb8, xb9, xb10, xb11]))
       ·
        intro is E2 I2_ hle_ hb hd kk_
        obtain ⟨hb2, hb3, hb6, -⟩ := hb
        obtain ⟨d13, v13, e13, g13, s13⟩ := hd 13 (by decide)
        cases e13
        subst s13
        obtain ⟨d23, v23, e23, g23, s23⟩ := hd 23 (by decide)
        cases e23
        subst s23
        rcases Bool.eq_false_or_eq_true (!decide (d84.name.data.toList = (((q.oracles.getD i83 default)).name).data.toList)) with hgb | hgb
        ·
         rw [hgb] at g13
         simp only [hgb, cond_true, cond_false] at g23
         refine JJ.gskip rg rfl (wants_of rfl g13) (kk_ _ _ (.refl _) (by first | rfl | simp only [hgb, xb0, xb1, xb2, xb3, xb4, xb5, xb6, xb7, xb8, xb9, xb10, xb11]))
        ·
         rw [hgb] at g13
         simp only [hgb, cond_true, cond_false] at g23
         refine JJ.fieldAddr (a' := (a106.add (i83 * 5)).add 1) fo55_1 rg rfl (wants_of rfl g13) g23 rfl (kk_ _ _ (.refl _) (by first | rfl | simp only [hgb, xb0, xb1, xb2, xb3, xb4, xb5, xb6, xb7, xb8, xb9, xb10, xb11]))
       ·
        intro is E2 I2_ hle_ hb hd kk_
        obtain ⟨hb2, hb3, hb6, -⟩ := hb
        obtain ⟨d13, v13, e13, g13, s13⟩ := hd 13 (by decide)
        cases e13
        subst s13
        obtain ⟨d24, v24, e24, g24, s24⟩ := hd 24 (by decide)
        cases e24
        subst s24
        rcases Bool.eq_false_or_eq_true (!decide (d84.name.data.toList = (((q.oracles.getD i83 default)).name).data.toList)) with hgb | hgb
        ·
         rw [hgb] at g13
         simp only [hgb, cond_true, cond_false] at g24
         refine JJ.gskip rg rfl (wants_of rfl g13) (kk_ _ _ (.refl _) (by first | rfl | simp only [hgb, xb0, xb1, xb2, xb3, xb4, xb5, xb6, xb7, xb8, xb9, xb10, xb11]))
        ·
         rw [hgb] at g13
         simp only [hgb, cond_true, cond_false] at g24
         refine JJ.loadI (v := .agg #[.int .i64 (((q.oracles.getD i83 default)).e.op), .int .i64 (((q.oracles.getD i83 default)).e.n), .string (((q.oracles.getD i83 default)).e.s), .slice (A113) ((((q.oracles.getD i83 default)).e.x).length) (cp114)]) ty53 rg rfl (wants_of rfl g13) g24 (Row.drop (hrow111.mono hle_) 1) rfl (kk_ _ _ (.refl _) (by first | rfl | simp only [hgb, xb0, xb1, xb2, xb3, xb4, xb5, xb6, xb7, xb8, xb9, xb10, xb11]))
       ·
        intro is E2 I2_ hle_ hb hd kk_
        obtain ⟨hb2, hb3, hb6, -⟩ := hb
        obtain ⟨d13, v13, e13, g13, s13⟩ := hd 13 (by decide)
        cases e13
        subst s13
        obtain ⟨d19, v19, e19, g19, s19⟩ := hd 19 (by decide)
        cases e19
        subst s19
        obtain ⟨d25, v25, e25, g25, s25⟩ := hd 25 (by decide)
        cases e25
        subst s25
        rcases Bool.eq_false_or_eq_true (!decide (d84.name.data.toList = (((q.oracles.getD i83 default)).name).data.toList)) with hgb | hgb
        ·
         rw [hgb] at g13
         simp only [hgb, cond_true, cond_false] at g19
         simp only [hgb, cond_true, cond_false] at g25
         refine JJ.gskip rg rfl (wants_of rfl g13) (kk_ _ _ (.refl _) (by first | rfl | simp only [hgb, xb0, xb1, xb2, xb3, xb4, xb5, xb6, xb7, xb8, xb9, xb10, xb11]))
        ·
         rw [hgb] at g13
         simp only [hgb, cond_true, cond_false] at g19
         simp only [hgb, cond_true, cond_false] at g25
         refine JJ.callp bo16 rg rfl (wants_of rfl g13) rfl (evL_cons g19 (evL_cons g25 rfl)) (sameX _ _ d84.e (RX.cl (hx102.mono hle_)) _ (((q.oracles.getD i83 default)).e) (RX.cl (hx115.mono hle_)) (by first | assumption | omega) (by first | assumption | omega)) fun _ I118 hle119 _ => (kk_ _ _ hle119 (by first | rfl | simp only [hgb, xb0, xb1, xb2, xb3, xb4, xb5, xb6, xb7, xb8, xb9, xb10, xb11]))
       ·
        intro is E2 I2_ hle_ hb hd kk_
        obtain ⟨hb2, hb3, hb6, -⟩ := hb
        obtain ⟨d13, v13, e13, g13, s13⟩ := hd 13 (by decide)
        cases e13
        subst s13
        obtain ⟨d26, v26, e26, g26, s26⟩ := hd 26 (by decide)
        cases e26
        subst s26
        rcases Bool.eq_false_or_eq_true (!decide (d84.name.data.toList = (((q.oracles.getD i83 default)).name).data.toList)) with hgb | hgb
        ·
         rw [hgb] at g13
         simp only [hgb, cond_true, cond_false] at g26
         refine JJ.gskip rg rfl (wants_of rfl g13) (kk_ _ _ (.refl _) (by first | rfl | simp only [hgb, xb0, xb1, xb2, xb3, xb4, xb5, xb6, xb7, xb8, xb9, xb10, xb11]))
        ·
         rw [hgb] at g13
         simp only [hgb, cond_true, cond_false] at g26
         refine JJ.not rg rfl (wants_of rfl g13) g26 (kk_ _ _ (.refl _) (by first | rfl | simp only [hgb, xb0, xb1, xb2, xb3, xb4, xb5, xb6, xb7, xb8, xb9, xb10, xb11]))
       ·
        intro is E2 I2_ hle_ hb hd kk_
        obtain ⟨hb2, hb3, hb6, -⟩ := hb
        obtain ⟨d13, v13, e13, g13, s13⟩ := hd 13 (by decide)
        cases e13
        subst s13
        obtain ⟨d27, v27, e27, g27, s27⟩ := hd 27 (by decide)
        cases e27
        subst s27
        rcases Bool.eq_false_or_eq_true (!decide (d84.name.data.toList = (((q.oracles.getD i83 default)).name).data.toList)) with hgb | hgb
        ·
         rw [hgb] at g13
         simp only [hgb, cond_true, cond_false] at g27
         refine JJ.pick (b := true) rg rfl rfl g13 rfl (kk_ _ _ (.refl _) (by first | rfl | simp only [hgb, xb0, xb1, xb2, xb3, xb4, xb5, xb6, xb7, xb8, xb9, xb10, xb11]))
        ·
         rw [hgb] at g13
         simp only [hgb, cond_true, cond_false] at g27
         refine JJ.pick (b := false) rg rfl rfl g13 g27 (kk_ _ _ (.refl _) (by first | rfl | simp only [hgb, xb0, xb1, xb2, xb3, xb4, xb5, xb6, xb7, xb8, xb9, xb10, xb11]))
      intro vs I121 hle120 hs_
      obtain ⟨hv0, hv1, hv2, hv3, hv4, hv5, hv6, hv7, hv8, hv9, hv10, hv11, hv12, hv13, hv14, hv15, hv16, hv17, hv18, hv19, hv20, hv21, hv22, hv23, hv24, hv25, hv26, hv27, hv28, -⟩ := hs_
      refine JJ.keep [(2, .pointer (some ⟨b25, 0, none⟩)), (3, .pointer (some ⟨b26, 0, none⟩)), (6, .int .i64 (((i83 : Nat) : Int))), (110, .bool (((!decide (d84.name.data.toList = (((q.oracles.getD i83 default)).name).data.toList)) || (!(F_sameX d84.e (((q.oracles.getD i83 default)).e))))))] ⟨rfl, rfl, rfl, congrArg some hv28, trivial⟩ ?_
      refine JJ.regionEnd ?_
      refine JJ.cond2 rfl (fun hc11 => ?_) (fun hc11 => ?_)
      ·
       have hc11b := hc11
       refine JJ.seq ?_
       refine JJ.region rfl fun rg => ?_
       refine JJ.assign rg rfl rfl rfl ?_
       refine JJ.regionEnd ?_
       have hE122 : F_same_l2 q 0 p.oracles = .inl false := by rw [hsp87, hdr_i83]; simp only [F_same_l2, hc11b, xb0, xb1, xb2, xb3, xb4, xb5, xb6, xb7, xb8, xb9, xb10, xb11]
       have hF : F_same p q = false := by simp only [F_same, hc1b, hE81, hE122, xb0, xb1, xb2, xb3, xb4, xb5, xb6, xb7, xb8, xb9, xb10, xb11]
       refine JJ.ret1 rfl Try.func7 rfl rfl (fun h h_ => ⟨(), trivial, (by rw [hF]), trivial⟩)
      ·
       have hc11b := hc11
       refine JJ.skip ?_
       refine JJ.inBlock ?_
       refine JJ.region rfl fun rg => ?_
       refine JJ.move rg rfl rfl rfl ?_
       refine JJ.binI (z := ((i83 + 1 : Nat) : Int)) rg rfl rfl rfl rfl rfl (wrap_to (by omega) (by omega) (by omega)) ?_
       refine JJ.assign rg rfl rfl rfl ?_
       refine JJ.regionEnd ?_
       have hnx : F_same_l2 q 0 p.oracles = F_same_l2 q (i83 + 1) (List.drop (i83 + 1) p.oracles) := by rw [hsp87, hdr_i83]; simp only [F_same_l2, hc11b, xb0, xb1, xb2, xb3, xb4, xb5, xb6, xb7, xb8, xb9, xb10, xb11]
       refine JJ.keep _ ?_ (ih89 (i83 + 1, I121) ⟨hlt_i83, (hle86.trans hle120), hnx⟩ (by dsimp only; omega))
       repeat (first | exact trivial | refine ⟨rfl, ?_⟩)
     ·
      have heq_i83 : i83 = (p.oracles).length := by omega
      have hdr_i83 : List.drop i83 p.oracles = [] := by rw [heq_i83]; exact List.drop_length
      refine JJ.seq ?_
      refine JJ.seq ?_
      refine JJ.region rfl fun rg => ?_
      refine JJ.move rg rfl rfl rfl ?_
      refine JJ.fieldAddr (a' := ⟨b25, 3, none⟩) fo26_3 rg rfl rfl rfl rfl ?_
      refine JJ.loadL (v := .slice (A10) ((p.oracles).length) (cp11)) ty24 1 rg rfl rfl rfl rfl rfl ?_
      refine JJ.lenSlice ss24 rg rfl rfl rfl ?_
      refine JJ.bin (v := .bool false) rg rfl rfl rfl rfl (congrArg (fun b => some (Value.bool b)) (decide_eq_false (by omega))) ?_
      refine JJ.regionEnd ?_
      refine JJ.cond (b := false) rfl ?_
      refine JJ.exit rfl ?_
      have hE : F_same_l2 q 0 p.oracles = .inr () := by rw [hsp87, hdr_i83]; simp only [F_same_l2, xb0, xb1, xb2, xb3, xb4, xb5, xb6, xb7, xb8, xb9, xb10, xb11]
      refine JJ.keep _ ?_ (hk90 (I85) ⟨hle86, hE⟩)
      repeat (first | exact trivial | refine ⟨rfl, ?_⟩)
    ·
     rintro I123 ⟨hle124, hE125⟩
     try dsimp only at hle124 hE125 ⊢
     refine JJ.seq ?_
     refine JJ.region rfl fun rg => ?_
     refine JJ.assign rg rfl rfl rfl ?_
     refine JJ.regionEnd ?_
     have hF : F_same p q = true := by simp only [F_same, hc1b, hE81, hE125, xb0, xb1, xb2, xb3, xb4, xb5, xb6, xb7, xb8, xb9, xb10, xb11]
     refine JJ.ret1 rfl Try.func7 rfl rfl (fun h h_ => ⟨(), trivial, (by rw [hF]), trivial⟩)
end Va
end Go.Proofs.Ytlcdafeoionnhaa
