/- Walks of functions, printed by a program of this session (wip/tool/eng.py). -/
import Derived.Test.YtlcdafeoionnhaaProg
import Derived.Test.YtlcdafeoionnhaaSize
import Derived.Test.YtlcdafeoionnhaaWb
import Derived.Test.YtlcdafeoionnhaaWc
namespace Go.Proofs.Ytlcdafeoionnhaa
open Go
set_option linter.unusedVariables false
set_option linter.unusedSimpArgs false
namespace Wd
theorem bo47 : bodyOk Try.prog 47 = true := by kernel_rfl
theorem bo49 : bodyOk Try.prog 49 = true := by kernel_rfl
theorem bo51 : bodyOk Try.prog 51 = true := by kernel_rfl
theorem bo63 : bodyOk Try.prog 63 = true := by kernel_rfl
theorem bo65 : bodyOk Try.prog 65 = true := by kernel_rfl
theorem bo66 : bodyOk Try.prog 66 = true := by kernel_rfl
theorem bo67 : bodyOk Try.prog 67 = true := by kernel_rfl
theorem bo80 : bodyOk Try.prog 80 = true := by kernel_rfl
theorem bo81 : bodyOk Try.prog 81 = true := by kernel_rfl
theorem bo85 : bodyOk Try.prog 85 = true := by kernel_rfl
theorem bo86 : bodyOk Try.prog 86 = true := by kernel_rfl
theorem bo87 : bodyOk Try.prog 87 = true := by kernel_rfl
theorem fo35_0 : fieldO Try.prog 35 0 = some 0 := by kernel_rfl
theorem fo35_1 : fieldO Try.prog 35 1 = some 1 := by kernel_rfl
theorem fo35_2 : fieldO Try.prog 35 2 = some 2 := by kernel_rfl
theorem fo35_3 : fieldO Try.prog 35 3 = some 3 := by kernel_rfl
theorem fo35_4 : fieldO Try.prog 35 4 = some 4 := by kernel_rfl
theorem fo35_5 : fieldO Try.prog 35 5 = some 5 := by kernel_rfl
theorem fo35_6 : fieldO Try.prog 35 6 = some 6 := by kernel_rfl
theorem ib4 : isBoolT Try.prog 4 = true := by kernel_rfl
theorem ss23 : isSliceT Try.prog 23 = true := by kernel_rfl
theorem ss33 : isSliceT Try.prog 33 = true := by kernel_rfl
theorem ty2 : tyI Try.prog 2 = some (false, 1) := by kernel_rfl
theorem ty23 : tyI Try.prog 23 = some (false, 1) := by kernel_rfl
theorem ty3 : tyI Try.prog 3 = some (false, 1) := by kernel_rfl
theorem ty33 : tyI Try.prog 33 = some (false, 1) := by kernel_rfl
theorem ty35 : tyI Try.prog 35 = some (true, 7) := by kernel_rfl
theorem ty4 : tyI Try.prog 4 = some (false, 1) := by kernel_rfl
theorem ty53 : tyI Try.prog 53 = some (true, 4) := by kernel_rfl
theorem ty9 : tyI Try.prog 9 = some (false, 1) := by kernel_rfl
open Wb Wc
theorem shape1 (I : Hp) (k : Nat) (cs : List Value) (x : Ex) (hre : RE k I cs x) (hgl : GL 0 I) (hsz : x.sz ≤ 4294967296) : Fn Try.prog 87 #[.agg (cs).toArray] I [] (RB (!x.ok 8)) := by
 refine Fn.of (args := [_]) Try.func87 rfl rfl ?_
 refine JJ.seq ?_
 refine JJ.region rfl fun rg => ?_
 refine JJ.box (cs := cs) rg rfl rfl rfl rfl fun b1 => ?_
 refine JJ.assign rg rfl rfl rfl ?_
 refine JJ.regionEnd ?_
 refine JJ.seq ?_
 refine JJ.region rfl fun rg => ?_
 refine JJ.loadL (v := .agg (cs).toArray) ty53 0 rg rfl rfl rfl rfl (ldV_all hre.len) ?_
 refine JJ.callp bo49 rg rfl rfl rfl rfl (expr _ _ _ x 8 hre hgl (by omega) (by omega)) fun _ I2 hle3 _ => ?_
 refine JJ.not rg rfl rfl rfl ?_
 refine JJ.assign rg rfl rfl rfl ?_
 refine JJ.regionEnd ?_
 refine JJ.ret1 rfl Try.func87 rfl rfl (fun h h_ => ⟨(), trivial, congrArg (Value.bool) (show (!(x.ok 8)) = (!x.ok 8) from by simp [*]), trivial⟩)
theorem shape_eq (x : St) : shapeB x.op x.s.data.toList x.n x.e x.body.length x.els.length x.commit = ((exprsOk x.op && decide ((x.e.length : Int) = exprsN x.op) && (namedB x.op == !decide (x.s.data.toList = [])) && (!namedB x.op || nameB x.s.data.toList)) && ((decide (x.n = 0) || decide (x.op = 14)) && !decide (x.n < 0) && !decide (16 < x.n)) && ((!x.commit || decide (x.op = 16)) && (bodyB x.op || !decide ((0 : Int) < ((x.body.length : Nat) : Int))) && (elseB x.op || !decide ((0 : Int) < ((x.els.length : Nat) : Int)))) && Ex.okl x.e 8) := by
  have e1 : decide (x.s.data.toList ≠ []) = !decide (x.s.data.toList = []) := by simp
  have e2 : decide (0 ≤ x.n) = !decide (x.n < 0) := by rw [← decide_not]; congr 1; apply propext; omega
  have e3 : decide (x.n ≤ 16) = !decide (16 < x.n) := by rw [← decide_not]; congr 1; apply propext; omega
  have e4 : ∀ n : Nat, decide (n = 0) = !decide ((0 : Int) < (n : Int)) := fun n => by rw [← decide_not]; congr 1; apply propext; omega
  simp only [shapeB, Bool.and_assoc, e1, e2, e3, e4]
theorem shape (I : Hp) (k : Nat) (cs : List Value) (x : St) (hre : RS (k + 1) I cs x) (hgl : GL 0 I) (hsz : x.sz ≤ 4294967296) : Fn Try.prog 80 #[.agg cs.toArray] I [] (RB (shapeB x.op x.s.data.toList x.n x.e x.body.length x.els.length x.commit)) := by
 obtain ⟨A, m, cp, A1, m1, cp1, A2, m2, cp2, rfl, hx, hx1, hx2⟩ := hre
 obtain rfl := hx.1
 obtain rfl := hx1.1
 obtain rfl := hx2.1
 have hz := x.sz_eq
 have hll := Ex.szl_len x.e
 have hll1 := St.szl_len x.body
 have hll2 := St.szl_len x.els
 change REs k I A _ cp x.e at hx
 change RSs k I A1 _ cp1 x.body at hx1
 change RSs k I A2 _ cp2 x.els at hx2
 refine Fn.of (args := [_]) Try.func80 rfl rfl ?_
 refine JJ.seq ?_
 refine JJ.region rfl fun rg => ?_
 refine JJ.box (cs := [.int .i64 (x.op), .string (x.s), .int .i64 (x.n), .slice (A) (x.e.length) (cp), .slice (A1) (x.body.length) (cp1), .slice (A2) (x.els.length) (cp2), .bool (x.commit)]) rg rfl rfl rfl rfl fun b1 => ?_
 refine JJ.assign rg rfl rfl rfl ?_
 refine JJ.regionEnd ?_
 refine JJ.seq ?_
 refine JJ.region rfl fun rg => ?_
 refine JJ.fieldAddr (a' := ⟨b1, 0, none⟩) fo35_0 rg rfl rfl rfl rfl ?_
 refine JJ.loadL (v := .int .i64 (x.op)) ty3 0 rg rfl rfl rfl rfl rfl ?_
 refine JJ.callp bo85 rg rfl rfl rfl rfl (Exprs _ x.op) fun _ I2 hle3 _ => ?_
 replace hgl := hgl.mono hle3
 replace hx := hx.mono hle3
 replace hx1 := hx1.mono hle3
 replace hx2 := hx2.mono hle3
 refine JJ.move rg rfl rfl rfl ?_
 refine JJ.extract rg rfl rfl rfl rfl ?_
 refine JJ.extract rg rfl rfl rfl rfl ?_
 refine JJ.assign rg rfl rfl rfl ?_
 refine JJ.assign rg rfl rfl rfl ?_
 refine JJ.regionEnd ?_
 refine JJ.seq ?_
 refine JJ.region rfl fun rg => ?_
 refine JJ.fieldAddr (a' := ⟨b1, 0, none⟩) fo35_0 rg rfl rfl rfl rfl ?_
 refine JJ.loadL (v := .int .i64 (x.op)) ty3 0 rg rfl rfl rfl rfl rfl ?_
 refine JJ.callp bo86 rg rfl rfl rfl rfl (blocks _ x.op) fun _ I4 hle5 _ => ?_
 replace hgl := hgl.mono hle5
 replace hx := hx.mono hle5
 replace hx1 := hx1.mono hle5
 replace hx2 := hx2.mono hle5
 refine JJ.move rg rfl rfl rfl ?_
 refine JJ.extract rg rfl rfl rfl rfl ?_
 refine JJ.extract rg rfl rfl rfl rfl ?_
 refine JJ.assign rg rfl rfl rfl ?_
 refine JJ.assign rg rfl rfl rfl ?_
 refine JJ.regionEnd ?_
 refine JJ.seq ?_
 refine JJ.cut (X := Hp) (fun _ => [(7, .bool (namedB x.op)), (1, .pointer (some ⟨b1, 0, none⟩)), (2, .bool false), (3, .int .i64 (exprsN x.op)), (4, .bool (exprsOk x.op)), (5, .bool (bodyB x.op)), (6, .bool (elseB x.op))]) (fun x => x) (fun _ => [blk b1 (.cells ([.int .i64 (x.op), .string (x.s), .int .i64 (x.n), .slice (A) (x.e.length) (cp), .slice (A1) (x.body.length) (cp1), .slice (A2) (x.els.length) (cp2), .bool (x.commit)]).toArray 35)]) (fun x => Hp.le (I4) x) (fun hk7 => ?_) ?_
 ·
  have hleM6 := Hp.le.refl (I4)
  refine JJ.region rfl fun rg => ?_
  refine JJ.fieldAddr (a' := ⟨b1, 0, none⟩) fo35_0 rg rfl rfl rfl rfl ?_
  refine JJ.loadL (v := .int .i64 (x.op)) ty3 0 rg rfl rfl rfl rfl rfl ?_
  refine JJ.bin rg rfl rfl rfl rfl rfl ?_
  refine JJ.move rg rfl rfl rfl ?_
  refine JJ.split 23 rfl (fun hg3_4 => ?_) (fun hg3_4 => ?_)
  ·
   have hg3_4b : (decide ((x.op : Int) = 12)) = true := hg3_4
   replace hg3_4 := of_decide_eq_true hg3_4
   refine JJ.gskip rg rfl rfl ?_
   refine JJ.gskip rg rfl rfl ?_
   refine JJ.gskip rg rfl rfl ?_
   refine JJ.pick (b := true) rg rfl rfl rfl rfl ?_
   refine JJ.assign rg rfl rfl rfl ?_
   refine JJ.regionEnd ?_
   refine JJ.keep _ ?_ (hk7 _ hleM6)
   exact ⟨congrArg (fun b => some (Value.bool b)) (show (true) = (namedB x.op) from by simp [namedB, *]), rfl, rfl, rfl, rfl, rfl, rfl, trivial⟩
  ·
   have hg3_4b : (decide ((x.op : Int) = 12)) = false := hg3_4
   replace hg3_4 := of_decide_eq_false hg3_4
   refine JJ.fieldAddr (a' := ⟨b1, 0, none⟩) fo35_0 rg rfl rfl rfl rfl ?_
   refine JJ.loadL (v := .int .i64 (x.op)) ty3 0 rg rfl rfl rfl rfl rfl ?_
   refine JJ.bin rg rfl rfl rfl rfl rfl ?_
   refine JJ.pick (b := false) rg rfl rfl rfl rfl ?_
   refine JJ.assign rg rfl rfl rfl ?_
   refine JJ.regionEnd ?_
   refine JJ.keep _ ?_ (hk7 _ hleM6)
   exact ⟨congrArg (fun b => some (Value.bool b)) (show (decide ((x.op : Int) = 15)) = (namedB x.op) from by simp [namedB, *]), rfl, rfl, rfl, rfl, rfl, rfl, trivial⟩
 ·
  intro I8 hle9
  replace hgl := hgl.mono hle9
  replace hx := hx.mono hle9
  replace hx1 := hx1.mono hle9
  replace hx2 := hx2.mono hle9
  refine JJ.seq ?_
  refine JJ.block ?_
  refine JJ.seq ?_
  refine JJ.cut (X := Hp) (fun _ => [(28, .bool (!(exprsOk x.op && decide ((x.e.length : Int) = exprsN x.op) && (namedB x.op == !decide (x.s.data.toList = [])) && (!namedB x.op || nameB x.s.data.toList)))), (1, .pointer (some ⟨b1, 0, none⟩)), (2, .bool false), (5, .bool (bodyB x.op)), (6, .bool (elseB x.op))]) (fun x => x) (fun _ => [blk b1 (.cells ([.int .i64 (x.op), .string (x.s), .int .i64 (x.n), .slice (A) (x.e.length) (cp), .slice (A1) (x.body.length) (cp1), .slice (A2) (x.els.length) (cp2), .bool (x.commit)]).toArray 35)]) (fun x => Hp.le (I8) x) (fun hk11 => ?_) ?_
  ·
   have hleM10 := Hp.le.refl (I8)
   refine JJ.region rfl fun rg => ?_
   refine JJ.move rg rfl rfl rfl ?_
   refine JJ.not rg rfl rfl rfl ?_
   refine JJ.move rg rfl rfl rfl ?_
   refine JJ.split 31 rfl (fun hg4_3 => ?_) (fun hg4_3 => ?_)
   ·
    have hg4_3b : (!(exprsOk x.op)) = true := hg4_3
    replace hg4_3 := not_t hg4_3
    replace hg4_3b := hg4_3
    refine JJ.gskip rg rfl rfl ?_
    refine JJ.gskip rg rfl rfl ?_
    refine JJ.gskip rg rfl rfl ?_
    refine JJ.gskip rg rfl rfl ?_
    refine JJ.gskip rg rfl rfl ?_
    refine JJ.pick (b := true) rg rfl rfl rfl rfl ?_
    refine JJ.move rg rfl rfl rfl ?_
    refine JJ.gskip rg rfl rfl ?_
    refine JJ.gskip rg rfl rfl ?_
    refine JJ.gskip rg rfl rfl ?_
    refine JJ.gskip rg rfl rfl ?_
    refine JJ.gskip rg rfl rfl ?_
    refine JJ.pick (b := true) rg rfl rfl rfl rfl ?_
    refine JJ.move rg rfl rfl rfl ?_
    refine JJ.gskip rg rfl rfl ?_
    refine JJ.gskip rg rfl rfl ?_
    refine JJ.gskip rg rfl rfl ?_
    refine JJ.gskip rg rfl rfl ?_
    refine JJ.gskip rg rfl rfl ?_
    refine JJ.gskip rg rfl rfl ?_
    refine JJ.gskip rg rfl rfl ?_
    refine JJ.pick (b := true) rg rfl rfl rfl rfl ?_
    refine JJ.assign rg rfl rfl rfl ?_
    refine JJ.regionEnd ?_
    refine JJ.keep _ ?_ (hk11 _ hleM10)
    exact ⟨congrArg (fun b => some (Value.bool b)) (show (true) = (!(exprsOk x.op && decide ((x.e.length : Int) = exprsN x.op) && (namedB x.op == !decide (x.s.data.toList = [])) && (!namedB x.op || nameB x.s.data.toList))) from by try simp only [hg4_3b]; simp), rfl, rfl, rfl, rfl, trivial⟩
   ·
    have hg4_3b : (!(exprsOk x.op)) = false := hg4_3
    replace hg4_3 := not_f hg4_3
    replace hg4_3b := hg4_3
    refine JJ.fieldAddr (a' := ⟨b1, 3, none⟩) fo35_3 rg rfl rfl rfl rfl ?_
    refine JJ.loadL (v := .slice (A) (x.e.length) (cp)) ty33 0 rg rfl rfl rfl rfl rfl ?_
    refine JJ.lenSlice ss33 rg rfl rfl rfl ?_
    refine JJ.move rg rfl rfl rfl ?_
    refine JJ.bin rg rfl rfl rfl rfl rfl ?_
    refine JJ.pick (b := false) rg rfl rfl rfl rfl ?_
    refine JJ.move rg rfl rfl rfl ?_
    refine JJ.split 38 rfl (fun hg4_10 => ?_) (fun hg4_10 => ?_)
    ·
     have hg4_10b : (!decide ((((x.e.length : Nat) : Int) : Int) = exprsN x.op)) = true := hg4_10
     replace hg4_10 := not_t hg4_10
     replace hg4_10b := hg4_10
     replace hg4_10 := of_decide_eq_false hg4_10
     refine JJ.gskip rg rfl rfl ?_
     refine JJ.gskip rg rfl rfl ?_
     refine JJ.gskip rg rfl rfl ?_
     refine JJ.gskip rg rfl rfl ?_
     refine JJ.gskip rg rfl rfl ?_
     refine JJ.pick (b := true) rg rfl rfl rfl rfl ?_
     refine JJ.move rg rfl rfl rfl ?_
     refine JJ.gskip rg rfl rfl ?_
     refine JJ.gskip rg rfl rfl ?_
     refine JJ.gskip rg rfl rfl ?_
     refine JJ.gskip rg rfl rfl ?_
     refine JJ.gskip rg rfl rfl ?_
     refine JJ.gskip rg rfl rfl ?_
     refine JJ.gskip rg rfl rfl ?_
     refine JJ.pick (b := true) rg rfl rfl rfl rfl ?_
     refine JJ.assign rg rfl rfl rfl ?_
     refine JJ.regionEnd ?_
     refine JJ.keep _ ?_ (hk11 _ hleM10)
     exact ⟨congrArg (fun b => some (Value.bool b)) (show (true) = (!(exprsOk x.op && decide ((x.e.length : Int) = exprsN x.op) && (namedB x.op == !decide (x.s.data.toList = [])) && (!namedB x.op || nameB x.s.data.toList))) from by try simp only [hg4_3b]; try simp only [hg4_10b]; simp), rfl, rfl, rfl, rfl, trivial⟩
    ·
     have hg4_10b : (!decide ((((x.e.length : Nat) : Int) : Int) = exprsN x.op)) = false := hg4_10
     replace hg4_10 := not_f hg4_10
     replace hg4_10b := hg4_10
     replace hg4_10 := of_decide_eq_true hg4_10
     refine JJ.move rg rfl rfl rfl ?_
     refine JJ.fieldAddr (a' := ⟨b1, 1, none⟩) fo35_1 rg rfl rfl rfl rfl ?_
     refine JJ.loadL (v := .string (x.s)) ty9 0 rg rfl rfl rfl rfl rfl ?_
     refine JJ.bin rg rfl rfl rfl rfl rfl ?_
     refine JJ.neBool ib4 rg rfl rfl rfl rfl ?_
     refine JJ.pick (b := false) rg rfl rfl rfl rfl ?_
     refine JJ.move rg rfl rfl rfl ?_
     refine JJ.split 45 rfl (fun hg4_17 => ?_) (fun hg4_17 => ?_)
     ·
      have hg4_17b : (!((namedB x.op) == (!decide (x.s.data.toList = [])))) = true := hg4_17
      replace hg4_17 := not_t hg4_17
      replace hg4_17b := hg4_17
      refine JJ.gskip rg rfl rfl ?_
      refine JJ.gskip rg rfl rfl ?_
      refine JJ.gskip rg rfl rfl ?_
      refine JJ.gskip rg rfl rfl ?_
      refine JJ.gskip rg rfl rfl ?_
      refine JJ.gskip rg rfl rfl ?_
      refine JJ.gskip rg rfl rfl ?_
      refine JJ.pick (b := true) rg rfl rfl rfl rfl ?_
      refine JJ.assign rg rfl rfl rfl ?_
      refine JJ.regionEnd ?_
      refine JJ.keep _ ?_ (hk11 _ hleM10)
      exact ⟨congrArg (fun b => some (Value.bool b)) (show (true) = (!(exprsOk x.op && decide ((x.e.length : Int) = exprsN x.op) && (namedB x.op == !decide (x.s.data.toList = [])) && (!namedB x.op || nameB x.s.data.toList))) from by try simp only [hg4_3b]; try simp only [hg4_10b]; try simp only [hg4_17b]; simp), rfl, rfl, rfl, rfl, trivial⟩
     ·
      have hg4_17b : (!((namedB x.op) == (!decide (x.s.data.toList = [])))) = false := hg4_17
      replace hg4_17 := not_f hg4_17
      replace hg4_17b := hg4_17
      refine JJ.move rg rfl rfl rfl ?_
      refine JJ.move rg rfl rfl rfl ?_
      refine JJ.split 47 rfl (fun hg4_19 => ?_) (fun hg4_19 => ?_)
      ·
       have hg4_19b : (namedB x.op) = true := hg4_19
       refine JJ.fieldAddr (a' := ⟨b1, 1, none⟩) fo35_1 rg rfl rfl rfl rfl ?_
       refine JJ.loadL (v := .string (x.s)) ty9 0 rg rfl rfl rfl rfl rfl ?_
       refine JJ.callp bo47 rg rfl rfl rfl rfl (Name _ x.s hgl) fun _ I14 hle15 _ => ?_
       replace hgl := hgl.mono hle15
       replace hx := hx.mono hle15
       replace hx1 := hx1.mono hle15
       replace hx2 := hx2.mono hle15
       replace hleM10 := hleM10.trans hle15
       refine JJ.not rg rfl rfl rfl ?_
       refine JJ.pick (b := true) rg rfl rfl rfl rfl ?_
       refine JJ.pick (b := false) rg rfl rfl rfl rfl ?_
       refine JJ.assign rg rfl rfl rfl ?_
       refine JJ.regionEnd ?_
       refine JJ.keep _ ?_ (hk11 _ hleM10)
       exact ⟨congrArg (fun b => some (Value.bool b)) (show (!(nameB x.s.data.toList)) = (!(exprsOk x.op && decide ((x.e.length : Int) = exprsN x.op) && (namedB x.op == !decide (x.s.data.toList = [])) && (!namedB x.op || nameB x.s.data.toList))) from by try simp only [hg4_3b]; try simp only [hg4_10b]; try simp only [hg4_17b]; try simp only [hg4_19b]; simp), rfl, rfl, rfl, rfl, trivial⟩
      ·
       have hg4_19b : (namedB x.op) = false := hg4_19
       refine JJ.gskip rg rfl rfl ?_
       refine JJ.gskip rg rfl rfl ?_
       refine JJ.gskip rg rfl rfl ?_
       refine JJ.gskip rg rfl rfl ?_
       refine JJ.pick (b := false) rg rfl rfl rfl rfl ?_
       refine JJ.pick (b := false) rg rfl rfl rfl rfl ?_
       refine JJ.assign rg rfl rfl rfl ?_
       refine JJ.regionEnd ?_
       refine JJ.keep _ ?_ (hk11 _ hleM10)
       exact ⟨congrArg (fun b => some (Value.bool b)) (show (false) = (!(exprsOk x.op && decide ((x.e.length : Int) = exprsN x.op) && (namedB x.op == !decide (x.s.data.toList = [])) && (!namedB x.op || nameB x.s.data.toList))) from by try simp only [hg4_3b]; try simp only [hg4_10b]; try simp only [hg4_17b]; try simp only [hg4_19b]; simp), rfl, rfl, rfl, rfl, trivial⟩
  ·
   intro I12 hle13
   replace hgl := hgl.mono hle13
   replace hx := hx.mono hle13
   replace hx1 := hx1.mono hle13
   replace hx2 := hx2.mono hle13
   refine JJ.cond2 rfl (fun hc4 => ?_) (fun hc4 => ?_)
   ·
    have hc4b : (!(exprsOk x.op && decide ((x.e.length : Int) = exprsN x.op) && (namedB x.op == !decide (x.s.data.toList = [])) && (!namedB x.op || nameB x.s.data.toList))) = true := hc4
    replace hc4 := not_t hc4
    replace hc4b := hc4
    refine JJ.seq ?_
    refine JJ.region rfl fun rg => ?_
    refine JJ.assign rg rfl rfl rfl ?_
    refine JJ.regionEnd ?_
    refine JJ.ret1 rfl Try.func80 rfl rfl (fun h h_ => ⟨(), trivial, congrArg Value.bool (show (false) = shapeB x.op x.s.data.toList x.n x.e x.body.length x.els.length x.commit from by rw [shape_eq, Ex.okl_all, all_any]; first | (simp only [hc4, Bool.false_and]; done) | (simp only [hc4, hc6, Bool.false_and, Bool.true_and]; done) | (simp only [hc4, hc6, hc8, Bool.false_and, Bool.true_and]; done)), trivial⟩)
   ·
    have hc4b : (!(exprsOk x.op && decide ((x.e.length : Int) = exprsN x.op) && (namedB x.op == !decide (x.s.data.toList = [])) && (!namedB x.op || nameB x.s.data.toList))) = false := hc4
    replace hc4 := not_f hc4
    replace hc4b := hc4
    refine JJ.seq ?_
    refine JJ.cut (X := Hp) (fun _ => [(54, .bool (!((decide (x.n = 0) || decide (x.op = 14)) && !decide (x.n < 0) && !decide (16 < x.n)))), (1, .pointer (some ⟨b1, 0, none⟩)), (2, .bool false), (5, .bool (bodyB x.op)), (6, .bool (elseB x.op))]) (fun x => x) (fun _ => [blk b1 (.cells ([.int .i64 (x.op), .string (x.s), .int .i64 (x.n), .slice (A) (x.e.length) (cp), .slice (A1) (x.body.length) (cp1), .slice (A2) (x.els.length) (cp2), .bool (x.commit)]).toArray 35)]) (fun x => Hp.le (I12) x) (fun hk17 => ?_) ?_
    ·
     have hleM16 := Hp.le.refl (I12)
     refine JJ.region rfl fun rg => ?_
     refine JJ.fieldAddr (a' := ⟨b1, 2, none⟩) fo35_2 rg rfl rfl rfl rfl ?_
     refine JJ.loadL (v := .int .i64 (x.n)) ty2 0 rg rfl rfl rfl rfl rfl ?_
     refine JJ.bin rg rfl rfl rfl rfl rfl ?_
     refine JJ.move rg rfl rfl rfl ?_
     refine JJ.split 58 rfl (fun hg6_4 => ?_) (fun hg6_4 => ?_)
     ·
      have hg6_4b : (!decide ((x.n : Int) = 0)) = true := hg6_4
      replace hg6_4 := not_t hg6_4
      replace hg6_4b := hg6_4
      replace hg6_4 := of_decide_eq_false hg6_4
      refine JJ.fieldAddr (a' := ⟨b1, 0, none⟩) fo35_0 rg rfl rfl rfl rfl ?_
      refine JJ.loadL (v := .int .i64 (x.op)) ty3 0 rg rfl rfl rfl rfl rfl ?_
      refine JJ.bin rg rfl rfl rfl rfl rfl ?_
      refine JJ.pick (b := true) rg rfl rfl rfl rfl ?_
      refine JJ.move rg rfl rfl rfl ?_
      refine JJ.split 63 rfl (fun hg6_9 => ?_) (fun hg6_9 => ?_)
      ·
       have hg6_9b : (!decide ((x.op : Int) = 14)) = true := hg6_9
       replace hg6_9 := not_t hg6_9
       replace hg6_9b := hg6_9
       replace hg6_9 := of_decide_eq_false hg6_9
       refine JJ.gskip rg rfl rfl ?_
       refine JJ.gskip rg rfl rfl ?_
       refine JJ.gskip rg rfl rfl ?_
       refine JJ.pick (b := true) rg rfl rfl rfl rfl ?_
       refine JJ.move rg rfl rfl rfl ?_
       refine JJ.gskip rg rfl rfl ?_
       refine JJ.gskip rg rfl rfl ?_
       refine JJ.gskip rg rfl rfl ?_
       refine JJ.pick (b := true) rg rfl rfl rfl rfl ?_
       refine JJ.assign rg rfl rfl rfl ?_
       refine JJ.regionEnd ?_
       refine JJ.keep _ ?_ (hk17 _ hleM16)
       exact ⟨congrArg (fun b => some (Value.bool b)) (show (true) = (!((decide (x.n = 0) || decide (x.op = 14)) && !decide (x.n < 0) && !decide (16 < x.n))) from by try simp only [hg6_4b]; try simp only [hg6_9b]; simp), rfl, rfl, rfl, rfl, trivial⟩
      ·
       have hg6_9b : (!decide ((x.op : Int) = 14)) = false := hg6_9
       replace hg6_9 := not_f hg6_9
       replace hg6_9b := hg6_9
       replace hg6_9 := of_decide_eq_true hg6_9
       refine JJ.fieldAddr (a' := ⟨b1, 2, none⟩) fo35_2 rg rfl rfl rfl rfl ?_
       refine JJ.loadL (v := .int .i64 (x.n)) ty2 0 rg rfl rfl rfl rfl rfl ?_
       refine JJ.bin rg rfl rfl rfl rfl rfl ?_
       refine JJ.pick (b := false) rg rfl rfl rfl rfl ?_
       refine JJ.move rg rfl rfl rfl ?_
       refine JJ.split 68 rfl (fun hg6_14 => ?_) (fun hg6_14 => ?_)
       ·
        have hg6_14b : (decide ((x.n : Int) < 0)) = true := hg6_14
        replace hg6_14 := of_decide_eq_true hg6_14
        refine JJ.gskip rg rfl rfl ?_
        refine JJ.gskip rg rfl rfl ?_
        refine JJ.gskip rg rfl rfl ?_
        refine JJ.pick (b := true) rg rfl rfl rfl rfl ?_
        refine JJ.assign rg rfl rfl rfl ?_
        refine JJ.regionEnd ?_
        refine JJ.keep _ ?_ (hk17 _ hleM16)
        exact ⟨congrArg (fun b => some (Value.bool b)) (show (true) = (!((decide (x.n = 0) || decide (x.op = 14)) && !decide (x.n < 0) && !decide (16 < x.n))) from by try simp only [hg6_4b]; try simp only [hg6_9b]; try simp only [hg6_14b]; simp), rfl, rfl, rfl, rfl, trivial⟩
       ·
        have hg6_14b : (decide ((x.n : Int) < 0)) = false := hg6_14
        replace hg6_14 := of_decide_eq_false hg6_14
        refine JJ.fieldAddr (a' := ⟨b1, 2, none⟩) fo35_2 rg rfl rfl rfl rfl ?_
        refine JJ.loadL (v := .int .i64 (x.n)) ty2 0 rg rfl rfl rfl rfl rfl ?_
        refine JJ.bin rg rfl rfl rfl rfl rfl ?_
        refine JJ.pick (b := false) rg rfl rfl rfl rfl ?_
        refine JJ.assign rg rfl rfl rfl ?_
        refine JJ.regionEnd ?_
        refine JJ.keep _ ?_ (hk17 _ hleM16)
        exact ⟨congrArg (fun b => some (Value.bool b)) (show (decide ((16 : Int) < x.n)) = (!((decide (x.n = 0) || decide (x.op = 14)) && !decide (x.n < 0) && !decide (16 < x.n))) from by try simp only [hg6_4b]; try simp only [hg6_9b]; try simp only [hg6_14b]; simp), rfl, rfl, rfl, rfl, trivial⟩
     ·
      have hg6_4b : (!decide ((x.n : Int) = 0)) = false := hg6_4
      replace hg6_4 := not_f hg6_4
      replace hg6_4b := hg6_4
      replace hg6_4 := of_decide_eq_true hg6_4
      refine JJ.gskip rg rfl rfl ?_
      refine JJ.gskip rg rfl rfl ?_
      refine JJ.gskip rg rfl rfl ?_
      refine JJ.pick (b := false) rg rfl rfl rfl rfl ?_
      refine JJ.move rg rfl rfl rfl ?_
      refine JJ.fieldAddr (a' := ⟨b1, 2, none⟩) fo35_2 rg rfl rfl rfl rfl ?_
      refine JJ.loadL (v := .int .i64 (x.n)) ty2 0 rg rfl rfl rfl rfl rfl ?_
      refine JJ.bin rg rfl rfl rfl rfl rfl ?_
      refine JJ.pick (b := false) rg rfl rfl rfl rfl ?_
      refine JJ.move rg rfl rfl rfl ?_
      refine JJ.split 68 rfl (fun hg6_14 => ?_) (fun hg6_14 => ?_)
      ·
       have hg6_14b : (decide ((x.n : Int) < 0)) = true := hg6_14
       replace hg6_14 := of_decide_eq_true hg6_14
       refine JJ.gskip rg rfl rfl ?_
       refine JJ.gskip rg rfl rfl ?_
       refine JJ.gskip rg rfl rfl ?_
       refine JJ.pick (b := true) rg rfl rfl rfl rfl ?_
       refine JJ.assign rg rfl rfl rfl ?_
       refine JJ.regionEnd ?_
       refine JJ.keep _ ?_ (hk17 _ hleM16)
       exact ⟨congrArg (fun b => some (Value.bool b)) (show (true) = (!((decide (x.n = 0) || decide (x.op = 14)) && !decide (x.n < 0) && !decide (16 < x.n))) from by try simp only [hg6_4b]; try simp only [hg6_14b]; simp), rfl, rfl, rfl, rfl, trivial⟩
      ·
       have hg6_14b : (decide ((x.n : Int) < 0)) = false := hg6_14
       replace hg6_14 := of_decide_eq_false hg6_14
       refine JJ.fieldAddr (a' := ⟨b1, 2, none⟩) fo35_2 rg rfl rfl rfl rfl ?_
       refine JJ.loadL (v := .int .i64 (x.n)) ty2 0 rg rfl rfl rfl rfl rfl ?_
       refine JJ.bin rg rfl rfl rfl rfl rfl ?_
       refine JJ.pick (b := false) rg rfl rfl rfl rfl ?_
       refine JJ.assign rg rfl rfl rfl ?_
       refine JJ.regionEnd ?_
       refine JJ.keep _ ?_ (hk17 _ hleM16)
       exact ⟨congrArg (fun b => some (Value.bool b)) (show (decide ((16 : Int) < x.n)) = (!((decide (x.n = 0) || decide (x.op = 14)) && !decide (x.n < 0) && !decide (16 < x.n))) from by try simp only [hg6_4b]; try simp only [hg6_14b]; simp), rfl, rfl, rfl, rfl, trivial⟩
    ·
     intro I18 hle19
     replace hgl := hgl.mono hle19
     replace hx := hx.mono hle19
     replace hx1 := hx1.mono hle19
     replace hx2 := hx2.mono hle19
     refine JJ.cond2 rfl (fun hc6 => ?_) (fun hc6 => ?_)
     ·
      have hc6b : (!((decide (x.n = 0) || decide (x.op = 14)) && !decide (x.n < 0) && !decide (16 < x.n))) = true := hc6
      replace hc6 := not_t hc6
      replace hc6b := hc6
      refine JJ.seq ?_
      refine JJ.region rfl fun rg => ?_
      refine JJ.assign rg rfl rfl rfl ?_
      refine JJ.regionEnd ?_
      refine JJ.ret1 rfl Try.func80 rfl rfl (fun h h_ => ⟨(), trivial, congrArg Value.bool (show (false) = shapeB x.op x.s.data.toList x.n x.e x.body.length x.els.length x.commit from by rw [shape_eq, Ex.okl_all, all_any]; first | (simp only [hc4, Bool.false_and]; done) | (simp only [hc4, hc6, Bool.false_and, Bool.true_and]; done) | (simp only [hc4, hc6, hc8, Bool.false_and, Bool.true_and]; done)), trivial⟩)
     ·
      have hc6b : (!((decide (x.n = 0) || decide (x.op = 14)) && !decide (x.n < 0) && !decide (16 < x.n))) = false := hc6
      replace hc6 := not_f hc6
      replace hc6b := hc6
      refine JJ.seq ?_
      refine JJ.cut (X := Hp) (fun _ => [(73, .bool (!((!x.commit || decide (x.op = 16)) && (bodyB x.op || !decide ((0 : Int) < ((x.body.length : Nat) : Int))) && (elseB x.op || !decide ((0 : Int) < ((x.els.length : Nat) : Int)))))), (1, .pointer (some ⟨b1, 0, none⟩)), (2, .bool false)]) (fun x => x) (fun _ => [blk b1 (.cells ([.int .i64 (x.op), .string (x.s), .int .i64 (x.n), .slice (A) (x.e.length) (cp), .slice (A1) (x.body.length) (cp1), .slice (A2) (x.els.length) (cp2), .bool (x.commit)]).toArray 35)]) (fun x => Hp.le (I18) x) (fun hk21 => ?_) ?_
      ·
       have hleM20 := Hp.le.refl (I18)
       refine JJ.region rfl fun rg => ?_
       refine JJ.fieldAddr (a' := ⟨b1, 6, none⟩) fo35_6 rg rfl rfl rfl rfl ?_
       refine JJ.loadL (v := .bool (x.commit)) ty4 0 rg rfl rfl rfl rfl rfl ?_
       refine JJ.move rg rfl rfl rfl ?_
       refine JJ.split 76 rfl (fun hg8_3 => ?_) (fun hg8_3 => ?_)
       ·
        have hg8_3b : (x.commit) = true := hg8_3
        refine JJ.fieldAddr (a' := ⟨b1, 0, none⟩) fo35_0 rg rfl rfl rfl rfl ?_
        refine JJ.loadL (v := .int .i64 (x.op)) ty3 0 rg rfl rfl rfl rfl rfl ?_
        refine JJ.bin rg rfl rfl rfl rfl rfl ?_
        refine JJ.pick (b := true) rg rfl rfl rfl rfl ?_
        refine JJ.move rg rfl rfl rfl ?_
        refine JJ.split 81 rfl (fun hg8_8 => ?_) (fun hg8_8 => ?_)
        ·
         have hg8_8b : (!decide ((x.op : Int) = 16)) = true := hg8_8
         replace hg8_8 := not_t hg8_8
         replace hg8_8b := hg8_8
         replace hg8_8 := of_decide_eq_false hg8_8
         refine JJ.gskip rg rfl rfl ?_
         refine JJ.gskip rg rfl rfl ?_
         refine JJ.gskip rg rfl rfl ?_
         refine JJ.gskip rg rfl rfl ?_
         refine JJ.gskip rg rfl rfl ?_
         refine JJ.gskip rg rfl rfl ?_
         refine JJ.gskip rg rfl rfl ?_
         refine JJ.gskip rg rfl rfl ?_
         refine JJ.pick (b := true) rg rfl rfl rfl rfl ?_
         refine JJ.move rg rfl rfl rfl ?_
         refine JJ.gskip rg rfl rfl ?_
         refine JJ.gskip rg rfl rfl ?_
         refine JJ.gskip rg rfl rfl ?_
         refine JJ.gskip rg rfl rfl ?_
         refine JJ.gskip rg rfl rfl ?_
         refine JJ.gskip rg rfl rfl ?_
         refine JJ.gskip rg rfl rfl ?_
         refine JJ.gskip rg rfl rfl ?_
         refine JJ.pick (b := true) rg rfl rfl rfl rfl ?_
         refine JJ.assign rg rfl rfl rfl ?_
         refine JJ.regionEnd ?_
         refine JJ.keep _ ?_ (hk21 _ hleM20)
         exact ⟨congrArg (fun b => some (Value.bool b)) (show (true) = (!((!x.commit || decide (x.op = 16)) && (bodyB x.op || !decide ((0 : Int) < ((x.body.length : Nat) : Int))) && (elseB x.op || !decide ((0 : Int) < ((x.els.length : Nat) : Int))))) from by try simp only [hg8_3b]; try simp only [hg8_8b]; simp), rfl, rfl, trivial⟩
        ·
         have hg8_8b : (!decide ((x.op : Int) = 16)) = false := hg8_8
         replace hg8_8 := not_f hg8_8
         replace hg8_8b := hg8_8
         replace hg8_8 := of_decide_eq_true hg8_8
         refine JJ.move rg rfl rfl rfl ?_
         refine JJ.not rg rfl rfl rfl ?_
         refine JJ.move rg rfl rfl rfl ?_
         refine JJ.split 84 rfl (fun hg8_11 => ?_) (fun hg8_11 => ?_)
         ·
          have hg8_11b : (!(bodyB x.op)) = true := hg8_11
          replace hg8_11 := not_t hg8_11
          replace hg8_11b := hg8_11
          refine JJ.fieldAddr (a' := ⟨b1, 4, none⟩) fo35_4 rg rfl rfl rfl rfl ?_
          refine JJ.loadL (v := .slice (A1) (x.body.length) (cp1)) ty23 0 rg rfl rfl rfl rfl rfl ?_
          refine JJ.lenSlice ss23 rg rfl rfl rfl ?_
          refine JJ.bin rg rfl rfl rfl rfl rfl ?_
          refine JJ.pick (b := true) rg rfl rfl rfl rfl ?_
          refine JJ.pick (b := false) rg rfl rfl rfl rfl ?_
          refine JJ.move rg rfl rfl rfl ?_
          refine JJ.split 91 rfl (fun hg8_18 => ?_) (fun hg8_18 => ?_)
          ·
           have hg8_18b : (decide ((0 : Int) < ((x.body.length : Nat) : Int))) = true := hg8_18
           replace hg8_18 := of_decide_eq_true hg8_18
           refine JJ.gskip rg rfl rfl ?_
           refine JJ.gskip rg rfl rfl ?_
           refine JJ.gskip rg rfl rfl ?_
           refine JJ.gskip rg rfl rfl ?_
           refine JJ.gskip rg rfl rfl ?_
           refine JJ.gskip rg rfl rfl ?_
           refine JJ.gskip rg rfl rfl ?_
           refine JJ.gskip rg rfl rfl ?_
           refine JJ.pick (b := true) rg rfl rfl rfl rfl ?_
           refine JJ.assign rg rfl rfl rfl ?_
           refine JJ.regionEnd ?_
           refine JJ.keep _ ?_ (hk21 _ hleM20)
           exact ⟨congrArg (fun b => some (Value.bool b)) (show (true) = (!((!x.commit || decide (x.op = 16)) && (bodyB x.op || !decide ((0 : Int) < ((x.body.length : Nat) : Int))) && (elseB x.op || !decide ((0 : Int) < ((x.els.length : Nat) : Int))))) from by try simp only [hg8_3b]; try simp only [hg8_8b]; try simp only [hg8_11b]; try simp only [hg8_18b]; simp), rfl, rfl, trivial⟩
          ·
           have hg8_18b : (decide ((0 : Int) < ((x.body.length : Nat) : Int))) = false := hg8_18
           replace hg8_18 := of_decide_eq_false hg8_18
           refine JJ.move rg rfl rfl rfl ?_
           refine JJ.not rg rfl rfl rfl ?_
           refine JJ.move rg rfl rfl rfl ?_
           refine JJ.split 94 rfl (fun hg8_21 => ?_) (fun hg8_21 => ?_)
           ·
            have hg8_21b : (!(elseB x.op)) = true := hg8_21
            replace hg8_21 := not_t hg8_21
            replace hg8_21b := hg8_21
            refine JJ.fieldAddr (a' := ⟨b1, 5, none⟩) fo35_5 rg rfl rfl rfl rfl ?_
            refine JJ.loadL (v := .slice (A2) (x.els.length) (cp2)) ty23 0 rg rfl rfl rfl rfl rfl ?_
            refine JJ.lenSlice ss23 rg rfl rfl rfl ?_
            refine JJ.bin rg rfl rfl rfl rfl rfl ?_
            refine JJ.pick (b := true) rg rfl rfl rfl rfl ?_
            refine JJ.pick (b := false) rg rfl rfl rfl rfl ?_
            refine JJ.assign rg rfl rfl rfl ?_
            refine JJ.regionEnd ?_
            refine JJ.keep _ ?_ (hk21 _ hleM20)
            exact ⟨congrArg (fun b => some (Value.bool b)) (show (decide ((0 : Int) < ((x.els.length : Nat) : Int))) = (!((!x.commit || decide (x.op = 16)) && (bodyB x.op || !decide ((0 : Int) < ((x.body.length : Nat) : Int))) && (elseB x.op || !decide ((0 : Int) < ((x.els.length : Nat) : Int))))) from by try simp only [hg8_3b]; try simp only [hg8_8b]; try simp only [hg8_11b]; try simp only [hg8_18b]; try simp only [hg8_21b]; simp), rfl, rfl, trivial⟩
           ·
            have hg8_21b : (!(elseB x.op)) = false := hg8_21
            replace hg8_21 := not_f hg8_21
            replace hg8_21b := hg8_21
            refine JJ.gskip rg rfl rfl ?_
            refine JJ.gskip rg rfl rfl ?_
            refine JJ.gskip rg rfl rfl ?_
            refine JJ.gskip rg rfl rfl ?_
            refine JJ.pick (b := false) rg rfl rfl rfl rfl ?_
            refine JJ.pick (b := false) rg rfl rfl rfl rfl ?_
            refine JJ.assign rg rfl rfl rfl ?_
            refine JJ.regionEnd ?_
            refine JJ.keep _ ?_ (hk21 _ hleM20)
            exact ⟨congrArg (fun b => some (Value.bool b)) (show (false) = (!((!x.commit || decide (x.op = 16)) && (bodyB x.op || !decide ((0 : Int) < ((x.body.length : Nat) : Int))) && (elseB x.op || !decide ((0 : Int) < ((x.els.length : Nat) : Int))))) from by try simp only [hg8_3b]; try simp only [hg8_8b]; try simp only [hg8_11b]; try simp only [hg8_18b]; try simp only [hg8_21b]; simp), rfl, rfl, trivial⟩
         ·
          have hg8_11b : (!(bodyB x.op)) = false := hg8_11
          replace hg8_11 := not_f hg8_11
          replace hg8_11b := hg8_11
          refine JJ.gskip rg rfl rfl ?_
          refine JJ.gskip rg rfl rfl ?_
          refine JJ.gskip rg rfl rfl ?_
          refine JJ.gskip rg rfl rfl ?_
          refine JJ.pick (b := false) rg rfl rfl rfl rfl ?_
          refine JJ.pick (b := false) rg rfl rfl rfl rfl ?_
          refine JJ.move rg rfl rfl rfl ?_
          refine JJ.move rg rfl rfl rfl ?_
          refine JJ.not rg rfl rfl rfl ?_
          refine JJ.move rg rfl rfl rfl ?_
          refine JJ.split 94 rfl (fun hg8_21 => ?_) (fun hg8_21 => ?_)
          ·
           have hg8_21b : (!(elseB x.op)) = true := hg8_21
           replace hg8_21 := not_t hg8_21
           replace hg8_21b := hg8_21
           refine JJ.fieldAddr (a' := ⟨b1, 5, none⟩) fo35_5 rg rfl rfl rfl rfl ?_
           refine JJ.loadL (v := .slice (A2) (x.els.length) (cp2)) ty23 0 rg rfl rfl rfl rfl rfl ?_
           refine JJ.lenSlice ss23 rg rfl rfl rfl ?_
           refine JJ.bin rg rfl rfl rfl rfl rfl ?_
           refine JJ.pick (b := true) rg rfl rfl rfl rfl ?_
           refine JJ.pick (b := false) rg rfl rfl rfl rfl ?_
           refine JJ.assign rg rfl rfl rfl ?_
           refine JJ.regionEnd ?_
           refine JJ.keep _ ?_ (hk21 _ hleM20)
           exact ⟨congrArg (fun b => some (Value.bool b)) (show (decide ((0 : Int) < ((x.els.length : Nat) : Int))) = (!((!x.commit || decide (x.op = 16)) && (bodyB x.op || !decide ((0 : Int) < ((x.body.length : Nat) : Int))) && (elseB x.op || !decide ((0 : Int) < ((x.els.length : Nat) : Int))))) from by try simp only [hg8_3b]; try simp only [hg8_8b]; try simp only [hg8_11b]; try simp only [hg8_21b]; simp), rfl, rfl, trivial⟩
          ·
           have hg8_21b : (!(elseB x.op)) = false := hg8_21
           replace hg8_21 := not_f hg8_21
           replace hg8_21b := hg8_21
           refine JJ.gskip rg rfl rfl ?_
           refine JJ.gskip rg rfl rfl ?_
           refine JJ.gskip rg rfl rfl ?_
           refine JJ.gskip rg rfl rfl ?_
           refine JJ.pick (b := false) rg rfl rfl rfl rfl ?_
           refine JJ.pick (b := false) rg rfl rfl rfl rfl ?_
           refine JJ.assign rg rfl rfl rfl ?_
           refine JJ.regionEnd ?_
           refine JJ.keep _ ?_ (hk21 _ hleM20)
           exact ⟨congrArg (fun b => some (Value.bool b)) (show (false) = (!((!x.commit || decide (x.op = 16)) && (bodyB x.op || !decide ((0 : Int) < ((x.body.length : Nat) : Int))) && (elseB x.op || !decide ((0 : Int) < ((x.els.length : Nat) : Int))))) from by try simp only [hg8_3b]; try simp only [hg8_8b]; try simp only [hg8_11b]; try simp only [hg8_21b]; simp), rfl, rfl, trivial⟩
       ·
        have hg8_3b : (x.commit) = false := hg8_3
        refine JJ.gskip rg rfl rfl ?_
        refine JJ.gskip rg rfl rfl ?_
        refine JJ.gskip rg rfl rfl ?_
        refine JJ.pick (b := false) rg rfl rfl rfl rfl ?_
        refine JJ.move rg rfl rfl rfl ?_
        refine JJ.move rg rfl rfl rfl ?_
        refine JJ.not rg rfl rfl rfl ?_
        refine JJ.move rg rfl rfl rfl ?_
        refine JJ.split 84 rfl (fun hg8_11 => ?_) (fun hg8_11 => ?_)
        ·
         have hg8_11b : (!(bodyB x.op)) = true := hg8_11
         replace hg8_11 := not_t hg8_11
         replace hg8_11b := hg8_11
         refine JJ.fieldAddr (a' := ⟨b1, 4, none⟩) fo35_4 rg rfl rfl rfl rfl ?_
         refine JJ.loadL (v := .slice (A1) (x.body.length) (cp1)) ty23 0 rg rfl rfl rfl rfl rfl ?_
         refine JJ.lenSlice ss23 rg rfl rfl rfl ?_
         refine JJ.bin rg rfl rfl rfl rfl rfl ?_
         refine JJ.pick (b := true) rg rfl rfl rfl rfl ?_
         refine JJ.pick (b := false) rg rfl rfl rfl rfl ?_
         refine JJ.move rg rfl rfl rfl ?_
         refine JJ.split 91 rfl (fun hg8_18 => ?_) (fun hg8_18 => ?_)
         ·
          have hg8_18b : (decide ((0 : Int) < ((x.body.length : Nat) : Int))) = true := hg8_18
          replace hg8_18 := of_decide_eq_true hg8_18
          refine JJ.gskip rg rfl rfl ?_
          refine JJ.gskip rg rfl rfl ?_
          refine JJ.gskip rg rfl rfl ?_
          refine JJ.gskip rg rfl rfl ?_
          refine JJ.gskip rg rfl rfl ?_
          refine JJ.gskip rg rfl rfl ?_
          refine JJ.gskip rg rfl rfl ?_
          refine JJ.gskip rg rfl rfl ?_
          refine JJ.pick (b := true) rg rfl rfl rfl rfl ?_
          refine JJ.assign rg rfl rfl rfl ?_
          refine JJ.regionEnd ?_
          refine JJ.keep _ ?_ (hk21 _ hleM20)
          exact ⟨congrArg (fun b => some (Value.bool b)) (show (true) = (!((!x.commit || decide (x.op = 16)) && (bodyB x.op || !decide ((0 : Int) < ((x.body.length : Nat) : Int))) && (elseB x.op || !decide ((0 : Int) < ((x.els.length : Nat) : Int))))) from by try simp only [hg8_3b]; try simp only [hg8_11b]; try simp only [hg8_18b]; simp), rfl, rfl, trivial⟩
         ·
          have hg8_18b : (decide ((0 : Int) < ((x.body.length : Nat) : Int))) = false := hg8_18
          replace hg8_18 := of_decide_eq_false hg8_18
          refine JJ.move rg rfl rfl rfl ?_
          refine JJ.not rg rfl rfl rfl ?_
          refine JJ.move rg rfl rfl rfl ?_
          refine JJ.split 94 rfl (fun hg8_21 => ?_) (fun hg8_21 => ?_)
          ·
           have hg8_21b : (!(elseB x.op)) = true := hg8_21
           replace hg8_21 := not_t hg8_21
           replace hg8_21b := hg8_21
           refine JJ.fieldAddr (a' := ⟨b1, 5, none⟩) fo35_5 rg rfl rfl rfl rfl ?_
           refine JJ.loadL (v := .slice (A2) (x.els.length) (cp2)) ty23 0 rg rfl rfl rfl rfl rfl ?_
           refine JJ.lenSlice ss23 rg rfl rfl rfl ?_
           refine JJ.bin rg rfl rfl rfl rfl rfl ?_
           refine JJ.pick (b := true) rg rfl rfl rfl rfl ?_
           refine JJ.pick (b := false) rg rfl rfl rfl rfl ?_
           refine JJ.assign rg rfl rfl rfl ?_
           refine JJ.regionEnd ?_
           refine JJ.keep _ ?_ (hk21 _ hleM20)
           exact ⟨congrArg (fun b => some (Value.bool b)) (show (decide ((0 : Int) < ((x.els.length : Nat) : Int))) = (!((!x.commit || decide (x.op = 16)) && (bodyB x.op || !decide ((0 : Int) < ((x.body.length : Nat) : Int))) && (elseB x.op || !decide ((0 : Int) < ((x.els.length : Nat) : Int))))) from by try simp only [hg8_3b]; try simp only [hg8_11b]; try simp only [hg8_18b]; try simp only [hg8_21b]; simp), rfl, rfl, trivial⟩
          ·
           have hg8_21b : (!(elseB x.op)) = false := hg8_21
           replace hg8_21 := not_f hg8_21
           replace hg8_21b := hg8_21
           refine JJ.gskip rg rfl rfl ?_
           refine JJ.gskip rg rfl rfl ?_
           refine JJ.gskip rg rfl rfl ?_
           refine JJ.gskip rg rfl rfl ?_
           refine JJ.pick (b := false) rg rfl rfl rfl rfl ?_
           refine JJ.pick (b := false) rg rfl rfl rfl rfl ?_
           refine JJ.assign rg rfl rfl rfl ?_
           refine JJ.regionEnd ?_
           refine JJ.keep _ ?_ (hk21 _ hleM20)
           exact ⟨congrArg (fun b => some (Value.bool b)) (show (false) = (!((!x.commit || decide (x.op = 16)) && (bodyB x.op || !decide ((0 : Int) < ((x.body.length : Nat) : Int))) && (elseB x.op || !decide ((0 : Int) < ((x.els.length : Nat) : Int))))) from by try simp only [hg8_3b]; try simp only [hg8_11b]; try simp only [hg8_18b]; try simp only [hg8_21b]; simp), rfl, rfl, trivial⟩
        ·
         have hg8_11b : (!(bodyB x.op)) = false := hg8_11
         replace hg8_11 := not_f hg8_11
         replace hg8_11b := hg8_11
         refine JJ.gskip rg rfl rfl ?_
         refine JJ.gskip rg rfl rfl ?_
         refine JJ.gskip rg rfl rfl ?_
         refine JJ.gskip rg rfl rfl ?_
         refine JJ.pick (b := false) rg rfl rfl rfl rfl ?_
         refine JJ.pick (b := false) rg rfl rfl rfl rfl ?_
         refine JJ.move rg rfl rfl rfl ?_
         refine JJ.move rg rfl rfl rfl ?_
         refine JJ.not rg rfl rfl rfl ?_
         refine JJ.move rg rfl rfl rfl ?_
         refine JJ.split 94 rfl (fun hg8_21 => ?_) (fun hg8_21 => ?_)
         ·
          have hg8_21b : (!(elseB x.op)) = true := hg8_21
          replace hg8_21 := not_t hg8_21
          replace hg8_21b := hg8_21
          refine JJ.fieldAddr (a' := ⟨b1, 5, none⟩) fo35_5 rg rfl rfl rfl rfl ?_
          refine JJ.loadL (v := .slice (A2) (x.els.length) (cp2)) ty23 0 rg rfl rfl rfl rfl rfl ?_
          refine JJ.lenSlice ss23 rg rfl rfl rfl ?_
          refine JJ.bin rg rfl rfl rfl rfl rfl ?_
          refine JJ.pick (b := true) rg rfl rfl rfl rfl ?_
          refine JJ.pick (b := false) rg rfl rfl rfl rfl ?_
          refine JJ.assign rg rfl rfl rfl ?_
          refine JJ.regionEnd ?_
          refine JJ.keep _ ?_ (hk21 _ hleM20)
          exact ⟨congrArg (fun b => some (Value.bool b)) (show (decide ((0 : Int) < ((x.els.length : Nat) : Int))) = (!((!x.commit || decide (x.op = 16)) && (bodyB x.op || !decide ((0 : Int) < ((x.body.length : Nat) : Int))) && (elseB x.op || !decide ((0 : Int) < ((x.els.length : Nat) : Int))))) from by try simp only [hg8_3b]; try simp only [hg8_11b]; try simp only [hg8_21b]; simp), rfl, rfl, trivial⟩
         ·
          have hg8_21b : (!(elseB x.op)) = false := hg8_21
          replace hg8_21 := not_f hg8_21
          replace hg8_21b := hg8_21
          refine JJ.gskip rg rfl rfl ?_
          refine JJ.gskip rg rfl rfl ?_
          refine JJ.gskip rg rfl rfl ?_
          refine JJ.gskip rg rfl rfl ?_
          refine JJ.pick (b := false) rg rfl rfl rfl rfl ?_
          refine JJ.pick (b := false) rg rfl rfl rfl rfl ?_
          refine JJ.assign rg rfl rfl rfl ?_
          refine JJ.regionEnd ?_
          refine JJ.keep _ ?_ (hk21 _ hleM20)
          exact ⟨congrArg (fun b => some (Value.bool b)) (show (false) = (!((!x.commit || decide (x.op = 16)) && (bodyB x.op || !decide ((0 : Int) < ((x.body.length : Nat) : Int))) && (elseB x.op || !decide ((0 : Int) < ((x.els.length : Nat) : Int))))) from by try simp only [hg8_3b]; try simp only [hg8_11b]; try simp only [hg8_21b]; simp), rfl, rfl, trivial⟩
      ·
       intro I22 hle23
       replace hgl := hgl.mono hle23
       replace hx := hx.mono hle23
       replace hx1 := hx1.mono hle23
       replace hx2 := hx2.mono hle23
       refine JJ.cond2 rfl (fun hc8 => ?_) (fun hc8 => ?_)
       ·
        have hc8b : (!((!x.commit || decide (x.op = 16)) && (bodyB x.op || !decide ((0 : Int) < ((x.body.length : Nat) : Int))) && (elseB x.op || !decide ((0 : Int) < ((x.els.length : Nat) : Int))))) = true := hc8
        replace hc8 := not_t hc8
        replace hc8b := hc8
        refine JJ.seq ?_
        refine JJ.region rfl fun rg => ?_
        refine JJ.assign rg rfl rfl rfl ?_
        refine JJ.regionEnd ?_
        refine JJ.ret1 rfl Try.func80 rfl rfl (fun h h_ => ⟨(), trivial, congrArg Value.bool (show (false) = shapeB x.op x.s.data.toList x.n x.e x.body.length x.els.length x.commit from by rw [shape_eq, Ex.okl_all, all_any]; first | (simp only [hc4, Bool.false_and]; done) | (simp only [hc4, hc6, Bool.false_and, Bool.true_and]; done) | (simp only [hc4, hc6, hc8, Bool.false_and, Bool.true_and]; done)), trivial⟩)
       ·
        have hc8b : (!((!x.commit || decide (x.op = 16)) && (bodyB x.op || !decide ((0 : Int) < ((x.body.length : Nat) : Int))) && (elseB x.op || !decide ((0 : Int) < ((x.els.length : Nat) : Int))))) = false := hc8
        replace hc8 := not_f hc8
        replace hc8b := hc8
        refine JJ.skip ?_
        refine JJ.inBlock ?_
        refine JJ.seq ?_
        refine JJ.region rfl fun rg => ?_
        refine JJ.fieldAddr (a' := ⟨b1, 3, none⟩) fo35_3 rg rfl rfl rfl rfl ?_
        refine JJ.loadL (v := .slice (A) (x.e.length) (cp)) ty33 0 rg rfl rfl rfl rfl rfl ?_
        refine JJ.callp bo63 rg rfl rfl rfl rfl (containsFunc_Expr _ k A x.e.length cp x.e (fun a => !a.ok 8) 87 [] [] (by omega) hx bo87 (fun I1 hl cs a ha hr => shape1 I1 k cs a hr (hgl.mono hl) (by have := Ex.szl_mem ha; omega))) fun _ I24 hle25 _ => ?_
        replace hgl := hgl.mono hle25
        replace hx := hx.mono hle25
        replace hx1 := hx1.mono hle25
        replace hx2 := hx2.mono hle25
        refine JJ.not rg rfl rfl rfl ?_
        refine JJ.assign rg rfl rfl rfl ?_
        refine JJ.regionEnd ?_
        refine JJ.ret1 rfl Try.func80 rfl rfl (fun h h_ => ⟨(), trivial, congrArg Value.bool (show (!(x.e.any (fun a => !a.ok 8))) = shapeB x.op x.s.data.toList x.n x.e x.body.length x.els.length x.commit from by rw [shape_eq, Ex.okl_all, all_any]; first | (simp only [hc4, Bool.false_and]; done) | (simp only [hc4, hc6, Bool.false_and, Bool.true_and]; done) | (simp only [hc4, hc6, hc8, Bool.false_and, Bool.true_and]; done)), trivial⟩)
theorem stmt1 (I : Hp) (k : Nat) (cs : List Value) (x : St) (hre : RS k I cs x) : Fn Try.prog 81 #[.agg cs.toArray] I [] (RB (!decide (x.op = 3))) := by
 obtain ⟨A, m, cp, A1, m1, cp1, A2, m2, cp2, rfl, hx, hx1, hx2⟩ := RS.open hre
 refine Fn.of (args := [_]) Try.func81 rfl rfl ?_
 refine JJ.seq ?_
 refine JJ.region rfl fun rg => ?_
 refine JJ.box (cs := [.int .i64 (x.op), .string (x.s), .int .i64 (x.n), .slice (A) (m) (cp), .slice (A1) (m1) (cp1), .slice (A2) (m2) (cp2), .bool (x.commit)]) rg rfl rfl rfl rfl fun b1 => ?_
 refine JJ.assign rg rfl rfl rfl ?_
 refine JJ.regionEnd ?_
 refine JJ.seq ?_
 refine JJ.region rfl fun rg => ?_
 refine JJ.fieldAddr (a' := ⟨b1, 0, none⟩) fo35_0 rg rfl rfl rfl rfl ?_
 refine JJ.loadL (v := .int .i64 (x.op)) ty3 0 rg rfl rfl rfl rfl rfl ?_
 refine JJ.bin rg rfl rfl rfl rfl rfl ?_
 refine JJ.assign rg rfl rfl rfl ?_
 refine JJ.regionEnd ?_
 refine JJ.ret1 rfl Try.func81 rfl rfl (fun h h_ => ⟨(), trivial, congrArg (Value.bool) (show (!decide ((x.op : Int) = 3)) = (!decide (x.op = 3)) from by simp [*]), trivial⟩)
def StmtOk (k : Nat) : Prop := ∀ (I : Hp) (cs : List Value) (x : St) (d : Nat), RS k I cs x → GL 0 I → x.sz ≤ 4294967296 → d ≤ 4294967296 → Fn Try.prog 67 #[.agg cs.toArray, .int .i64 d] I [] (RB (x.ok d))
theorem block1 (I : Hp) (k : Nat) (ih : StmtOk k) (cs : List Value) (x : St) (d b : Nat) (hre : RS k I cs x) (hgl : GL 0 I) (hsz : x.sz ≤ 4294967296) (hd2 : d ≤ 4294967296) (hb : Row I ⟨b, 0, none⟩ [.int .i64 d]) : Fn Try.prog 66 #[.agg (cs).toArray, .pointer (some ⟨b, 0, none⟩)] I [] (RB (!x.ok d)) := by
 refine Fn.of (args := [_, _]) Try.func66 rfl rfl ?_
 refine JJ.seq ?_
 refine JJ.region rfl fun rg => ?_
 refine JJ.box (cs := cs) rg rfl rfl rfl rfl fun b1 => ?_
 refine JJ.assign rg rfl rfl rfl ?_
 refine JJ.regionEnd ?_
 refine JJ.seq ?_
 refine JJ.region rfl fun rg => ?_
 refine JJ.loadL (v := .agg (cs).toArray) ty35 0 rg rfl rfl rfl rfl (ldV_all hre.len) ?_
 refine JJ.loadI (v := .int .i64 (((d : Nat) : Int))) ty3 rg rfl rfl rfl hb rfl ?_
 refine JJ.callp bo67 rg rfl rfl rfl rfl (ih _ cs x d hre hgl hsz (by omega)) fun _ I2 hle3 _ => ?_
 refine JJ.not rg rfl rfl rfl ?_
 refine JJ.assign rg rfl rfl rfl ?_
 refine JJ.regionEnd ?_
 refine JJ.ret1 rfl Try.func66 rfl rfl (fun h h_ => ⟨(), trivial, congrArg (Value.bool) (show (!(x.ok d)) = (!x.ok d) from by simp [*]), trivial⟩)
theorem block (I : Hp) (k : Nat) (ih : StmtOk k) (A : Option Addr) (n cp : Nat) (ds : List St) (d : Nat) (hx : RSs k I A n cp ds) (hgl : GL 0 I) (hsz : St.szl ds ≤ 4294967296) (hd2 : d ≤ 4294967296) : Fn Try.prog 51 #[.slice (A) (n) (cp), .int .i64 (((d : Nat) : Int))] I [] (RB (St.okl ds d)) := by
 have hll := St.szl_len ds
 have hnn := hx.1
 refine Fn.of (args := [_, _]) Try.func51 rfl rfl ?_
 refine JJ.seq ?_
 refine JJ.region rfl fun rg => ?_
 refine JJ.box (cs := [.int .i64 (((d : Nat) : Int))]) rg rfl rfl rfl rfl fun b1 => ?_
 refine JJ.assign rg rfl rfl rfl ?_
 refine JJ.regionEnd ?_
 refine JJ.seq ?_
 refine JJ.region rfl fun rg => ?_
 refine JJ.move rg rfl rfl rfl ?_
 refine JJ.share fun I2 hle3 hb4 => ?_
 replace hx := hx.mono hle3
 replace hgl := hgl.mono hle3
 have hrow5 : Row I2 ⟨b1, 0, none⟩ [.int .i64 (((d : Nat) : Int))] := Row.of hb4 0
 clear hb4
 refine JJ.makeFunc rg rfl rfl [].toArray [.pointer (some ⟨b1, 0, none⟩)].toArray (fun a hE => by simp []) (fun a hE => by simp [hE.ev (o := .tmp 3) (v := .pointer (some ⟨b1, 0, none⟩)) rfl]) ?_
 refine JJ.callp bo65 rg rfl rfl rfl rfl (containsFunc_Stmt _ k A n cp ds (fun a => !a.ok d) 66 [] [.pointer (some ⟨b1, 0, none⟩)] (by omega) hx bo66 (fun I1 hl cs a ha hr => block1 I1 k ih cs a d b1 hr (hgl.mono hl) (by have := St.szl_mem ha; omega) hd2 (hrow5.mono hl))) fun _ I6 hle7 _ => ?_
 replace hx := hx.mono hle7
 replace hgl := hgl.mono hle7
 replace hrow5 := hrow5.mono hle7
 refine JJ.not rg rfl rfl rfl ?_
 refine JJ.assign rg rfl rfl rfl ?_
 refine JJ.regionEnd ?_
 refine JJ.ret1 rfl Try.func51 rfl rfl (fun h h_ => ⟨(), trivial, congrArg (Value.bool) (show (!(ds.any (fun a => !a.ok d))) = (St.okl ds d) from by rw [St.okl_all, all_any]), trivial⟩)
theorem st_eq (x : St) (d : Nat) : x.ok d = ((!decide ((8 : Int) < ((d : Nat) : Int)) && shapeB x.op x.s.data.toList x.n x.e x.body.length x.els.length x.commit) && (!decide (x.op = 16) || (!decide ((8 : Int) < ((x.body.length : Nat) : Int)) && !x.body.any (fun a => !decide (a.op = 3)))) && St.okl x.body (d + 1) && St.okl x.els (d + 1)) := by
  have e4 : ∀ n : Nat, decide (n ≤ 8) = !decide ((8 : Int) < (n : Int)) := fun n => by rw [← decide_not]; congr 1; apply propext; omega
  rw [St.ok_eq, e4, e4, all_any]
theorem stmt : ∀ k, StmtOk k := by
 intro k
 induction k with
 | zero => intro I cs x d h; exact h.elim
 | succ k ih =>
 intro I cs x d hre hgl hsz hd2
 have hre0 := hre
 obtain ⟨A, m, cp, A1, m1, cp1, A2, m2, cp2, rfl, hx, hx1, hx2⟩ := hre
 obtain rfl := hx.1
 obtain rfl := hx1.1
 obtain rfl := hx2.1
 have hz := x.sz_eq
 have hll := Ex.szl_len x.e
 have hll1 := St.szl_len x.body
 have hll2 := St.szl_len x.els
 change REs k I A _ cp x.e at hx
 change RSs k I A1 _ cp1 x.body at hx1
 change RSs k I A2 _ cp2 x.els at hx2
 show Fn _ _ _ _ _ _
 refine Fn.of (args := [_, _]) Try.func67 rfl rfl ?_
 refine JJ.seq ?_
 refine JJ.region rfl fun rg => ?_
 refine JJ.box (cs := [.int .i64 (x.op), .string (x.s), .int .i64 (x.n), .slice (A) (x.e.length) (cp), .slice (A1) (x.body.length) (cp1), .slice (A2) (x.els.length) (cp2), .bool (x.commit)]) rg rfl rfl rfl rfl fun b1 => ?_
 refine JJ.assign rg rfl rfl rfl ?_
 refine JJ.regionEnd ?_
 refine JJ.seq ?_
 refine JJ.seq ?_
 refine JJ.cut (X := Hp) (fun _ => [(12, .bool (!(!decide ((8 : Int) < ((d : Nat) : Int)) && shapeB x.op x.s.data.toList x.n x.e x.body.length x.els.length x.commit))), (1, .int .i64 (((d : Nat) : Int))), (2, .pointer (some ⟨b1, 0, none⟩)), (4, .bool false)]) (fun x => x) (fun _ => [blk b1 (.cells ([.int .i64 (x.op), .string (x.s), .int .i64 (x.n), .slice (A) (x.e.length) (cp), .slice (A1) (x.body.length) (cp1), .slice (A2) (x.els.length) (cp2), .bool (x.commit)]).toArray 35)]) (fun x => Hp.le (I) x) (fun hk3 => ?_) ?_
 ·
  have hleM2 := Hp.le.refl (I)
  refine JJ.region rfl fun rg => ?_
  refine JJ.move rg rfl rfl rfl ?_
  refine JJ.bin rg rfl rfl rfl rfl rfl ?_
  refine JJ.move rg rfl rfl rfl ?_
  refine JJ.split 8 rfl (fun hg1_3 => ?_) (fun hg1_3 => ?_)
  ·
   have hg1_3b : (decide ((8 : Int) < ((d : Nat) : Int))) = true := hg1_3
   replace hg1_3 := of_decide_eq_true hg1_3
   refine JJ.gskip rg rfl rfl ?_
   refine JJ.gskip rg rfl rfl ?_
   refine JJ.gskip rg rfl rfl ?_
   refine JJ.pick (b := true) rg rfl rfl rfl rfl ?_
   refine JJ.regionEnd ?_
   refine JJ.keep _ ?_ (hk3 _ hleM2)
   exact ⟨congrArg (fun b => some (Value.bool b)) (show (true) = (!(!decide ((8 : Int) < ((d : Nat) : Int)) && shapeB x.op x.s.data.toList x.n x.e x.body.length x.els.length x.commit)) from by try simp only [hg1_3b]; simp), rfl, rfl, rfl, trivial⟩
  ·
   have hg1_3b : (decide ((8 : Int) < ((d : Nat) : Int))) = false := hg1_3
   replace hg1_3 := of_decide_eq_false hg1_3
   refine JJ.loadL (v := .agg #[.int .i64 (x.op), .string (x.s), .int .i64 (x.n), .slice (A) (x.e.length) (cp), .slice (A1) (x.body.length) (cp1), .slice (A2) (x.els.length) (cp2), .bool (x.commit)]) ty35 0 rg rfl rfl rfl rfl rfl ?_
   refine JJ.callp bo80 rg rfl rfl rfl rfl (shape _ k _ x hre0 hgl hsz) fun _ I6 hle7 _ => ?_
   replace hgl := hgl.mono hle7
   replace hx := hx.mono hle7
   replace hx1 := hx1.mono hle7
   replace hx2 := hx2.mono hle7
   replace hre0 := hre0.mono hle7
   replace hleM2 := hleM2.trans hle7
   refine JJ.not rg rfl rfl rfl ?_
   refine JJ.pick (b := false) rg rfl rfl rfl rfl ?_
   refine JJ.regionEnd ?_
   refine JJ.keep _ ?_ (hk3 _ hleM2)
   exact ⟨congrArg (fun b => some (Value.bool b)) (show (!(shapeB x.op x.s.data.toList x.n x.e x.body.length x.els.length x.commit)) = (!(!decide ((8 : Int) < ((d : Nat) : Int)) && shapeB x.op x.s.data.toList x.n x.e x.body.length x.els.length x.commit)) from by try simp only [hg1_3b]; simp), rfl, rfl, rfl, trivial⟩
 ·
  intro I4 hle5
  replace hgl := hgl.mono hle5
  replace hx := hx.mono hle5
  replace hx1 := hx1.mono hle5
  replace hx2 := hx2.mono hle5
  replace hre0 := hre0.mono hle5
  refine JJ.cond2 rfl (fun hc1 => ?_) (fun hc1 => ?_)
  ·
   have hc1b : (!(!decide ((8 : Int) < ((d : Nat) : Int)) && shapeB x.op x.s.data.toList x.n x.e x.body.length x.els.length x.commit)) = true := hc1
   replace hc1 := not_t hc1
   replace hc1b := hc1
   refine JJ.seq ?_
   refine JJ.region rfl fun rg => ?_
   refine JJ.assign rg rfl rfl rfl ?_
   refine JJ.regionEnd ?_
   refine JJ.ret1 rfl Try.func67 rfl rfl (fun h h_ => ⟨(), trivial, congrArg Value.bool (show (false) = x.ok d from by rw [st_eq]; try simp only [hc1b]; simp), trivial⟩)
  ·
   have hc1b : (!(!decide ((8 : Int) < ((d : Nat) : Int)) && shapeB x.op x.s.data.toList x.n x.e x.body.length x.els.length x.commit)) = false := hc1
   replace hc1 := not_f hc1
   replace hc1b := hc1
   have hd8 : d ≤ 8 := by have := hc1b; simp only [Bool.and_eq_true, Bool.not_eq_true', decide_eq_false_iff_not] at this; omega
   refine JJ.skip ?_
   refine JJ.seq ?_
   refine JJ.seq ?_
   refine JJ.region rfl fun rg => ?_
   refine JJ.fieldAddr (a' := ⟨b1, 0, none⟩) fo35_0 rg rfl rfl rfl rfl ?_
   refine JJ.loadL (v := .int .i64 (x.op)) ty3 0 rg rfl rfl rfl rfl rfl ?_
   refine JJ.bin rg rfl rfl rfl rfl rfl ?_
   refine JJ.regionEnd ?_
   refine JJ.cond2 rfl (fun hc3 => ?_) (fun hc3 => ?_)
   ·
    have hc3b : (decide ((x.op : Int) = 16)) = true := hc3
    replace hc3 := of_decide_eq_true hc3
    refine JJ.seq ?_
    refine JJ.region rfl fun rg => ?_
    refine JJ.assign rg rfl rfl rfl ?_
    refine JJ.regionEnd ?_
    refine JJ.seq ?_
    refine JJ.cut (X := Hp) (fun _ => [(25, .bool (!(!decide ((8 : Int) < ((x.body.length : Nat) : Int)) && !x.body.any (fun a => !decide (a.op = 3))))), (1, .int .i64 (((d : Nat) : Int))), (2, .pointer (some ⟨b1, 0, none⟩)), (4, .bool false)]) (fun x => x) (fun _ => [blk b1 (.cells ([.int .i64 (x.op), .string (x.s), .int .i64 (x.n), .slice (A) (x.e.length) (cp), .slice (A1) (x.body.length) (cp1), .slice (A2) (x.els.length) (cp2), .bool (x.commit)]).toArray 35)]) (fun x => Hp.le (I4) x) (fun hk9 => ?_) ?_
    ·
     have hleM8 := Hp.le.refl (I4)
     refine JJ.region rfl fun rg => ?_
     refine JJ.fieldAddr (a' := ⟨b1, 4, none⟩) fo35_4 rg rfl rfl rfl rfl ?_
     refine JJ.loadL (v := .slice (A1) (x.body.length) (cp1)) ty23 0 rg rfl rfl rfl rfl rfl ?_
     refine JJ.lenSlice ss23 rg rfl rfl rfl ?_
     refine JJ.bin rg rfl rfl rfl rfl rfl ?_
     refine JJ.move rg rfl rfl rfl ?_
     refine JJ.split 20 rfl (fun hg5_5 => ?_) (fun hg5_5 => ?_)
     ·
      have hg5_5b : (decide ((8 : Int) < ((x.body.length : Nat) : Int))) = true := hg5_5
      replace hg5_5 := of_decide_eq_true hg5_5
      refine JJ.gskip rg rfl rfl ?_
      refine JJ.gskip rg rfl rfl ?_
      refine JJ.gskip rg rfl rfl ?_
      refine JJ.gskip rg rfl rfl ?_
      refine JJ.pick (b := true) rg rfl rfl rfl rfl ?_
      refine JJ.regionEnd ?_
      refine JJ.keep _ ?_ (hk9 _ hleM8)
      exact ⟨congrArg (fun b => some (Value.bool b)) (show (true) = (!(!decide ((8 : Int) < ((x.body.length : Nat) : Int)) && !x.body.any (fun a => !decide (a.op = 3)))) from by try simp only [hg5_5b]; simp), rfl, rfl, rfl, trivial⟩
     ·
      have hg5_5b : (decide ((8 : Int) < ((x.body.length : Nat) : Int))) = false := hg5_5
      replace hg5_5 := of_decide_eq_false hg5_5
      refine JJ.fieldAddr (a' := ⟨b1, 4, none⟩) fo35_4 rg rfl rfl rfl rfl ?_
      refine JJ.loadL (v := .slice (A1) (x.body.length) (cp1)) ty23 0 rg rfl rfl rfl rfl rfl ?_
      refine JJ.move rg rfl rfl rfl ?_
      refine JJ.callp bo65 rg rfl rfl rfl rfl (containsFunc_Stmt _ k A1 x.body.length cp1 x.body (fun a => !decide (a.op = 3)) 81 [] [] (by omega) hx1 bo81 (fun I1 hl cs a ha hr => stmt1 I1 k cs a hr)) fun _ I12 hle13 _ => ?_
      replace hgl := hgl.mono hle13
      replace hx := hx.mono hle13
      replace hx1 := hx1.mono hle13
      replace hx2 := hx2.mono hle13
      replace hre0 := hre0.mono hle13
      replace hleM8 := hleM8.trans hle13
      refine JJ.pick (b := false) rg rfl rfl rfl rfl ?_
      refine JJ.regionEnd ?_
      refine JJ.keep _ ?_ (hk9 _ hleM8)
      exact ⟨congrArg (fun b => some (Value.bool b)) (show (x.body.any (fun a => !decide (a.op = 3))) = (!(!decide ((8 : Int) < ((x.body.length : Nat) : Int)) && !x.body.any (fun a => !decide (a.op = 3)))) from by try simp only [hg5_5b]; simp), rfl, rfl, rfl, trivial⟩
    ·
     intro I10 hle11
     replace hgl := hgl.mono hle11
     replace hx := hx.mono hle11
     replace hx1 := hx1.mono hle11
     replace hx2 := hx2.mono hle11
     replace hre0 := hre0.mono hle11
     refine JJ.cond2 rfl (fun hc5 => ?_) (fun hc5 => ?_)
     ·
      have hc5b : (!(!decide ((8 : Int) < ((x.body.length : Nat) : Int)) && !x.body.any (fun a => !decide (a.op = 3)))) = true := hc5
      replace hc5 := not_t hc5
      replace hc5b := hc5
      refine JJ.seq ?_
      refine JJ.region rfl fun rg => ?_
      refine JJ.assign rg rfl rfl rfl ?_
      refine JJ.regionEnd ?_
      refine JJ.ret1 rfl Try.func67 rfl rfl (fun h h_ => ⟨(), trivial, congrArg Value.bool (show (false) = x.ok d from by rw [st_eq]; try simp only [hc1b]; try simp only [hc3b]; try simp only [hc5b]; simp), trivial⟩)
     ·
      have hc5b : (!(!decide ((8 : Int) < ((x.body.length : Nat) : Int)) && !x.body.any (fun a => !decide (a.op = 3)))) = false := hc5
      replace hc5 := not_f hc5
      replace hc5b := hc5
      refine JJ.skip ?_
      refine JJ.seq ?_
      refine JJ.region rfl fun rg => ?_
      refine JJ.fieldAddr (a' := ⟨b1, 4, none⟩) fo35_4 rg rfl rfl rfl rfl ?_
      refine JJ.loadL (v := .slice (A1) (x.body.length) (cp1)) ty23 0 rg rfl rfl rfl rfl rfl ?_
      refine JJ.move rg rfl rfl rfl ?_
      refine JJ.binI (z := ((d + 1 : Nat) : Int)) rg rfl rfl rfl rfl rfl (wrap_to (by omega) (by omega) (by omega)) ?_
      refine JJ.callp bo51 rg rfl rfl rfl rfl (block _ k ih A1 x.body.length cp1 x.body (d + 1) hx1 hgl (by omega) (by omega)) fun _ I14 hle15 _ => ?_
      replace hgl := hgl.mono hle15
      replace hx := hx.mono hle15
      replace hx1 := hx1.mono hle15
      replace hx2 := hx2.mono hle15
      replace hre0 := hre0.mono hle15
      refine JJ.move rg rfl rfl rfl ?_
      refine JJ.split 31 rfl (fun hg7_6 => ?_) (fun hg7_6 => ?_)
      ·
       have hg7_6b : (St.okl x.body (d + 1)) = true := hg7_6
       refine JJ.fieldAddr (a' := ⟨b1, 5, none⟩) fo35_5 rg rfl rfl rfl rfl ?_
       refine JJ.loadL (v := .slice (A2) (x.els.length) (cp2)) ty23 0 rg rfl rfl rfl rfl rfl ?_
       refine JJ.move rg rfl rfl rfl ?_
       refine JJ.binI (z := ((d + 1 : Nat) : Int)) rg rfl rfl rfl rfl rfl (wrap_to (by omega) (by omega) (by omega)) ?_
       refine JJ.callp bo51 rg rfl rfl rfl rfl (block _ k ih A2 x.els.length cp2 x.els (d + 1) hx2 hgl (by omega) (by omega)) fun _ I16 hle17 _ => ?_
       replace hgl := hgl.mono hle17
       replace hx := hx.mono hle17
       replace hx1 := hx1.mono hle17
       replace hx2 := hx2.mono hle17
       replace hre0 := hre0.mono hle17
       refine JJ.pick (b := true) rg rfl rfl rfl rfl ?_
       refine JJ.assign rg rfl rfl rfl ?_
       refine JJ.regionEnd ?_
       refine JJ.ret1 rfl Try.func67 rfl rfl (fun h h_ => ⟨(), trivial, congrArg Value.bool (show (St.okl x.els (d + 1)) = x.ok d from by rw [st_eq]; try simp only [hc1b]; try simp only [hc3b]; try simp only [hc5b]; try simp only [hg7_6b]; simp), trivial⟩)
      ·
       have hg7_6b : (St.okl x.body (d + 1)) = false := hg7_6
       refine JJ.gskip rg rfl rfl ?_
       refine JJ.gskip rg rfl rfl ?_
       refine JJ.gskip rg rfl rfl ?_
       refine JJ.gskip rg rfl rfl ?_
       refine JJ.gskip rg rfl rfl ?_
       refine JJ.pick (b := false) rg rfl rfl rfl rfl ?_
       refine JJ.assign rg rfl rfl rfl ?_
       refine JJ.regionEnd ?_
       refine JJ.ret1 rfl Try.func67 rfl rfl (fun h h_ => ⟨(), trivial, congrArg Value.bool (show (false) = x.ok d from by rw [st_eq]; try simp only [hc1b]; try simp only [hc3b]; try simp only [hc5b]; try simp only [hg7_6b]; simp), trivial⟩)
   ·
    have hc3b : (decide ((x.op : Int) = 16)) = false := hc3
    replace hc3 := of_decide_eq_false hc3
    refine JJ.skip ?_
    refine JJ.seq ?_
    refine JJ.region rfl fun rg => ?_
    refine JJ.fieldAddr (a' := ⟨b1, 4, none⟩) fo35_4 rg rfl rfl rfl rfl ?_
    refine JJ.loadL (v := .slice (A1) (x.body.length) (cp1)) ty23 0 rg rfl rfl rfl rfl rfl ?_
    refine JJ.move rg rfl rfl rfl ?_
    refine JJ.binI (z := ((d + 1 : Nat) : Int)) rg rfl rfl rfl rfl rfl (wrap_to (by omega) (by omega) (by omega)) ?_
    refine JJ.callp bo51 rg rfl rfl rfl rfl (block _ k ih A1 x.body.length cp1 x.body (d + 1) hx1 hgl (by omega) (by omega)) fun _ I18 hle19 _ => ?_
    replace hgl := hgl.mono hle19
    replace hx := hx.mono hle19
    replace hx1 := hx1.mono hle19
    replace hx2 := hx2.mono hle19
    replace hre0 := hre0.mono hle19
    refine JJ.move rg rfl rfl rfl ?_
    refine JJ.split 31 rfl (fun hg7_6 => ?_) (fun hg7_6 => ?_)
    ·
     have hg7_6b : (St.okl x.body (d + 1)) = true := hg7_6
     refine JJ.fieldAddr (a' := ⟨b1, 5, none⟩) fo35_5 rg rfl rfl rfl rfl ?_
     refine JJ.loadL (v := .slice (A2) (x.els.length) (cp2)) ty23 0 rg rfl rfl rfl rfl rfl ?_
     refine JJ.move rg rfl rfl rfl ?_
     refine JJ.binI (z := ((d + 1 : Nat) : Int)) rg rfl rfl rfl rfl rfl (wrap_to (by omega) (by omega) (by omega)) ?_
     refine JJ.callp bo51 rg rfl rfl rfl rfl (block _ k ih A2 x.els.length cp2 x.els (d + 1) hx2 hgl (by omega) (by omega)) fun _ I20 hle21 _ => ?_
     replace hgl := hgl.mono hle21
     replace hx := hx.mono hle21
     replace hx1 := hx1.mono hle21
     replace hx2 := hx2.mono hle21
     replace hre0 := hre0.mono hle21
     refine JJ.pick (b := true) rg rfl rfl rfl rfl ?_
     refine JJ.assign rg rfl rfl rfl ?_
     refine JJ.regionEnd ?_
     refine JJ.ret1 rfl Try.func67 rfl rfl (fun h h_ => ⟨(), trivial, congrArg Value.bool (show (St.okl x.els (d + 1)) = x.ok d from by rw [st_eq]; try simp only [hc1b]; try simp only [hc3b]; try simp only [hg7_6b]; simp), trivial⟩)
    ·
     have hg7_6b : (St.okl x.body (d + 1)) = false := hg7_6
     refine JJ.gskip rg rfl rfl ?_
     refine JJ.gskip rg rfl rfl ?_
     refine JJ.gskip rg rfl rfl ?_
     refine JJ.gskip rg rfl rfl ?_
     refine JJ.gskip rg rfl rfl ?_
     refine JJ.pick (b := false) rg rfl rfl rfl rfl ?_
     refine JJ.assign rg rfl rfl rfl ?_
     refine JJ.regionEnd ?_
     refine JJ.ret1 rfl Try.func67 rfl rfl (fun h h_ => ⟨(), trivial, congrArg Value.bool (show (false) = x.ok d from by rw [st_eq]; try simp only [hc1b]; try simp only [hc3b]; try simp only [hg7_6b]; simp), trivial⟩)
end Wd
end Go.Proofs.Ytlcdafeoionnhaa
