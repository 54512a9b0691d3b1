/- Walks of functions, printed by a program of this session (wip/tool/eng.py). -/
import Derived.Test.YtlcdafeoionnhaaProg
import Derived.Test.YtlcdafeoionnhaaSize
import Derived.Test.YtlcdafeoionnhaaOwn
import Derived.Test.YtlcdafeoionnhaaWb
import Derived.Test.YtlcdafeoionnhaaWc
import Derived.Test.YtlcdafeoionnhaaWd
import Derived.Test.YtlcdafeoionnhaaWe
import Derived.Test.YtlcdafeoionnhaaWf
import Derived.Test.YtlcdafeoionnhaaWg
namespace Go.Proofs.Ytlcdafeoionnhaa
open Go
set_option linter.unusedVariables false
set_option linter.unusedSimpArgs false
namespace Wh
theorem bo17 : bodyOk Try.prog 17 = true := by kernel_rfl
theorem bo46 : bodyOk Try.prog 46 = true := by kernel_rfl
theorem bo48 : bodyOk Try.prog 48 = true := by kernel_rfl
theorem bo50 : bodyOk Try.prog 50 = true := by kernel_rfl
theorem bo52 : bodyOk Try.prog 52 = true := by kernel_rfl
theorem bo53 : bodyOk Try.prog 53 = true := by kernel_rfl
theorem bo54 : bodyOk Try.prog 54 = true := by kernel_rfl
theorem bo8 : bodyOk Try.prog 8 = true := by kernel_rfl
theorem fo26_0 : fieldO Try.prog 26 0 = some 0 := by kernel_rfl
theorem fo26_3 : fieldO Try.prog 26 3 = some 3 := by kernel_rfl
theorem ss22 : isSliceT Try.prog 22 = true := by kernel_rfl
theorem ss23 : isSliceT Try.prog 23 = true := by kernel_rfl
theorem ss24 : isSliceT Try.prog 24 = true := by kernel_rfl
theorem ty22 : tyI Try.prog 22 = some (false, 1) := by kernel_rfl
theorem ty24 : tyI Try.prog 24 = some (false, 1) := by kernel_rfl
theorem ty26 : tyI Try.prog 26 = some (true, 4) := by kernel_rfl
open Wb Wc Wd We Wf Wg
theorem right_eq (x : Pg) : x.right = ((!decide ((16 : Int) < ((x.procs.length : Nat) : Int)) && !decide ((16 : Int) < ((x.oracles.length : Nat) : Int)) && !decide ((256 : Int) < ((x.alls.length : Nat) : Int))) && !x.procs.any (fun a => !nameB a.name.data.toList) && !x.oracles.any (fun a => !(nameB a.name.data.toList && a.e.ok 8)) && !x.parts.any (fun a => !St.okl a 1)) := by
  have e4 : ∀ n : Nat, ∀ b : Nat, decide (n ≤ b) = !decide ((b : Int) < (n : Int)) := fun n b => by rw [← decide_not]; congr 1; apply propext; omega
  unfold Pg.right
  rw [all_any, all_any, all_any, e4, e4, e4]; rfl
theorem Right (k : Nat) (I : Hp) (cs : List Value) (x : Pg) (hre : RPg k I cs x) (hgl : GL 0 I) (hsz : x.sz ≤ 4294967296) : Fn Try.prog 39 #[.agg cs.toArray] I [] (RB x.right) := by
 have hre0 := hre
 obtain ⟨A, m, cp, A1, m1, cp1, A2, m2, cp2, A3, m3, cp3, rfl, hx, hx1, hx2, hx3⟩ := hre
 obtain rfl := hx.1
 obtain rfl := hx3.1
 have h4 : x.sz = Pc.szl x.procs + St.szl x.main + St.szl x.recover + Oc.szl x.oracles := rfl
 have hl1 := Pc.szl_len x.procs
 have hl2 := Oc.szl_len x.oracles
 have hpl : x.parts.length = x.procs.length + 2 := by simp [Pg.parts]
 change RPcs k I A _ cp x.procs at hx
 change ROcs k I A3 _ cp3 x.oracles at hx3
 refine Fn.of (args := [_]) Try.func39 rfl rfl ?_
 refine JJ.seq ?_
 refine JJ.region rfl fun rg => ?_
 refine JJ.box (cs := [.slice (A) (x.procs.length) (cp), .slice (A1) (m1) (cp1), .slice (A2) (m2) (cp2), .slice (A3) (x.oracles.length) (cp3)]) rg rfl rfl rfl rfl fun b1 => ?_
 refine JJ.assign rg rfl rfl rfl ?_
 refine JJ.regionEnd ?_
 refine JJ.seq ?_
 refine JJ.seq ?_
 refine JJ.cut (X := Hp) (fun _ => [(21, .bool (!(!decide ((16 : Int) < ((x.procs.length : Nat) : Int)) && !decide ((16 : Int) < ((x.oracles.length : Nat) : Int)) && !decide ((256 : Int) < ((x.alls.length : Nat) : Int))))), (1, .pointer (some ⟨b1, 0, none⟩)), (2, .bool false)]) (fun x => x) (fun _ => [blk b1 (.cells ([.slice (A) (x.procs.length) (cp), .slice (A1) (m1) (cp1), .slice (A2) (m2) (cp2), .slice (A3) (x.oracles.length) (cp3)]).toArray 26)]) (fun x => Hp.le (I) x) (fun hk3 => ?_) ?_
 ·
  have hleM2 := Hp.le.refl (I)
  refine JJ.region rfl fun rg => ?_
  refine JJ.fieldAddr (a' := ⟨b1, 0, none⟩) fo26_0 rg rfl rfl rfl rfl ?_
  refine JJ.loadL (v := .slice (A) (x.procs.length) (cp)) ty22 0 rg rfl rfl rfl rfl rfl ?_
  refine JJ.lenSlice ss22 rg rfl rfl rfl ?_
  refine JJ.bin rg rfl rfl rfl rfl rfl ?_
  refine JJ.move rg rfl rfl rfl ?_
  refine JJ.split 10 rfl (fun hg1_5 => ?_) (fun hg1_5 => ?_)
  ·
   have hg1_5b : (decide ((16 : Int) < ((x.procs.length : Nat) : Int))) = true := hg1_5
   replace hg1_5 := of_decide_eq_true hg1_5
   refine JJ.gskip rg rfl rfl ?_
   refine JJ.gskip rg rfl rfl ?_
   refine JJ.gskip rg rfl rfl ?_
   refine JJ.gskip rg rfl rfl ?_
   refine JJ.pick (b := true) rg rfl rfl rfl rfl ?_
   refine JJ.move rg rfl rfl rfl ?_
   refine JJ.gskip rg rfl rfl ?_
   refine JJ.gskip rg rfl rfl ?_
   refine JJ.gskip rg rfl rfl ?_
   refine JJ.gskip rg rfl rfl ?_
   refine JJ.pick (b := true) rg rfl rfl rfl rfl ?_
   refine JJ.regionEnd ?_
   refine JJ.keep _ ?_ (hk3 _ hleM2)
   exact ⟨congrArg (fun b => some (Value.bool b)) (show (true) = (!(!decide ((16 : Int) < ((x.procs.length : Nat) : Int)) && !decide ((16 : Int) < ((x.oracles.length : Nat) : Int)) && !decide ((256 : Int) < ((x.alls.length : Nat) : Int)))) from by try simp only [hg1_5b]; simp), rfl, rfl, trivial⟩
  ·
   have hg1_5b : (decide ((16 : Int) < ((x.procs.length : Nat) : Int))) = false := hg1_5
   replace hg1_5 := of_decide_eq_false hg1_5
   refine JJ.fieldAddr (a' := ⟨b1, 3, none⟩) fo26_3 rg rfl rfl rfl rfl ?_
   refine JJ.loadL (v := .slice (A3) (x.oracles.length) (cp3)) ty24 0 rg rfl rfl rfl rfl rfl ?_
   refine JJ.lenSlice ss24 rg rfl rfl rfl ?_
   refine JJ.bin rg rfl rfl rfl rfl rfl ?_
   refine JJ.pick (b := false) rg rfl rfl rfl rfl ?_
   refine JJ.move rg rfl rfl rfl ?_
   refine JJ.split 16 rfl (fun hg1_11 => ?_) (fun hg1_11 => ?_)
   ·
    have hg1_11b : (decide ((16 : Int) < ((x.oracles.length : Nat) : Int))) = true := hg1_11
    replace hg1_11 := of_decide_eq_true hg1_11
    refine JJ.gskip rg rfl rfl ?_
    refine JJ.gskip rg rfl rfl ?_
    refine JJ.gskip rg rfl rfl ?_
    refine JJ.gskip rg rfl rfl ?_
    refine JJ.pick (b := true) rg rfl rfl rfl rfl ?_
    refine JJ.regionEnd ?_
    refine JJ.keep _ ?_ (hk3 _ hleM2)
    exact ⟨congrArg (fun b => some (Value.bool b)) (show (true) = (!(!decide ((16 : Int) < ((x.procs.length : Nat) : Int)) && !decide ((16 : Int) < ((x.oracles.length : Nat) : Int)) && !decide ((256 : Int) < ((x.alls.length : Nat) : Int)))) from by try simp only [hg1_5b]; try simp only [hg1_11b]; simp), rfl, rfl, trivial⟩
   ·
    have hg1_11b : (decide ((16 : Int) < ((x.oracles.length : Nat) : Int))) = false := hg1_11
    replace hg1_11 := of_decide_eq_false hg1_11
    refine JJ.loadL (v := .agg #[.slice (A) (x.procs.length) (cp), .slice (A1) (m1) (cp1), .slice (A2) (m2) (cp2), .slice (A3) (x.oracles.length) (cp3)]) ty26 0 rg rfl rfl rfl rfl rfl ?_
    refine JJ.callp bo8 rg rfl rfl rfl rfl (All k _ _ x hre0 hsz) fun pa I6 hle7 hpa => ?_
    replace hre0 := hre0.mono hle7
    replace hgl := hgl.mono hle7
    replace hx := hx.mono hle7
    replace hx3 := hx3.mono hle7
    replace hleM2 := hleM2.trans hle7
    refine JJ.lenSlice ss23 rg rfl rfl rfl ?_
    refine JJ.bin rg rfl rfl rfl rfl rfl ?_
    refine JJ.pick (b := false) rg rfl rfl rfl rfl ?_
    refine JJ.regionEnd ?_
    refine JJ.keep _ ?_ (hk3 _ hleM2)
    exact ⟨congrArg (fun b => some (Value.bool b)) (show (decide ((256 : Int) < ((x.alls.length : Nat) : Int))) = (!(!decide ((16 : Int) < ((x.procs.length : Nat) : Int)) && !decide ((16 : Int) < ((x.oracles.length : Nat) : Int)) && !decide ((256 : Int) < ((x.alls.length : Nat) : Int)))) from by try simp only [hg1_5b]; try simp only [hg1_11b]; simp), rfl, rfl, trivial⟩
 ·
  intro I4 hle5
  replace hre0 := hre0.mono hle5
  replace hgl := hgl.mono hle5
  replace hx := hx.mono hle5
  replace hx3 := hx3.mono hle5
  refine JJ.cond2 rfl (fun hc1 => ?_) (fun hc1 => ?_)
  ·
   have hc1b : (!(!decide ((16 : Int) < ((x.procs.length : Nat) : Int)) && !decide ((16 : Int) < ((x.oracles.length : Nat) : Int)) && !decide ((256 : Int) < ((x.alls.length : Nat) : Int)))) = true := hc1
   replace hc1 := not_t hc1
   replace hc1b := hc1
   refine JJ.seq ?_
   refine JJ.region rfl fun rg => ?_
   refine JJ.assign rg rfl rfl rfl ?_
   refine JJ.regionEnd ?_
   refine JJ.ret1 rfl Try.func39 rfl rfl (fun h h_ => ⟨(), trivial, congrArg Value.bool (show (false) = x.right from by rw [right_eq]; try simp only [hc1b]; simp), trivial⟩)
  ·
   have hc1b : (!(!decide ((16 : Int) < ((x.procs.length : Nat) : Int)) && !decide ((16 : Int) < ((x.oracles.length : Nat) : Int)) && !decide ((256 : Int) < ((x.alls.length : Nat) : Int)))) = false := hc1
   replace hc1 := not_f hc1
   replace hc1b := hc1
   refine JJ.skip ?_
   refine JJ.seq ?_
   refine JJ.region rfl fun rg => ?_
   refine JJ.assign rg rfl rfl rfl ?_
   refine JJ.regionEnd ?_
   refine JJ.seq ?_
   refine JJ.region rfl fun rg => ?_
   refine JJ.assign rg rfl rfl rfl ?_
   refine JJ.regionEnd ?_
   refine JJ.seq ?_
   refine JJ.region rfl fun rg => ?_
   refine JJ.assign rg rfl rfl rfl ?_
   refine JJ.regionEnd ?_
   refine JJ.seq ?_
   refine JJ.region rfl fun rg => ?_
   refine JJ.fieldAddr (a' := ⟨b1, 0, none⟩) fo26_0 rg rfl rfl rfl rfl ?_
   refine JJ.loadL (v := .slice (A) (x.procs.length) (cp)) ty22 0 rg rfl rfl rfl rfl rfl ?_
   refine JJ.move rg rfl rfl rfl ?_
   refine JJ.callp bo52 rg rfl rfl rfl rfl (containsFunc_Proc _ k A x.procs.length cp x.procs (fun a => !nameB a.name.data.toList) 46 [] [] (by omega) hx bo46 (fun I1 hl cs a ha hr => right1 I1 k cs a hr (hgl.mono hl))) fun _ I8 hle9 _ => ?_
   replace hre0 := hre0.mono hle9
   replace hgl := hgl.mono hle9
   replace hx := hx.mono hle9
   replace hx3 := hx3.mono hle9
   refine JJ.not rg rfl rfl rfl ?_
   refine JJ.move rg rfl rfl rfl ?_
   refine JJ.split 27 rfl (fun hg6_6 => ?_) (fun hg6_6 => ?_)
   ·
    have hg6_6b : (!(x.procs.any (fun a => !nameB a.name.data.toList))) = true := hg6_6
    replace hg6_6 := not_t hg6_6
    replace hg6_6b := hg6_6
    refine JJ.fieldAddr (a' := ⟨b1, 3, none⟩) fo26_3 rg rfl rfl rfl rfl ?_
    refine JJ.loadL (v := .slice (A3) (x.oracles.length) (cp3)) ty24 0 rg rfl rfl rfl rfl rfl ?_
    refine JJ.move rg rfl rfl rfl ?_
    refine JJ.callp bo53 rg rfl rfl rfl rfl (containsFunc_Oracle _ k A3 x.oracles.length cp3 x.oracles (fun a => !(nameB a.name.data.toList && a.e.ok 8)) 48 [] [] (by omega) hx3 bo48 (fun I1 hl cs a ha hr => right2 I1 k cs a hr (hgl.mono hl) (by have := Oc.szl_mem ha; have hq : a.sz = a.e.sz + 1 := rfl; omega))) fun _ I10 hle11 _ => ?_
    replace hre0 := hre0.mono hle11
    replace hgl := hgl.mono hle11
    replace hx := hx.mono hle11
    replace hx3 := hx3.mono hle11
    refine JJ.not rg rfl rfl rfl ?_
    refine JJ.pick (b := true) rg rfl rfl rfl rfl ?_
    refine JJ.move rg rfl rfl rfl ?_
    refine JJ.split 34 rfl (fun hg6_13 => ?_) (fun hg6_13 => ?_)
    ·
     have hg6_13b : (!(x.oracles.any (fun a => !(nameB a.name.data.toList && a.e.ok 8)))) = true := hg6_13
     replace hg6_13 := not_t hg6_13
     replace hg6_13b := hg6_13
     refine JJ.loadL (v := .agg #[.slice (A) (x.procs.length) (cp), .slice (A1) (m1) (cp1), .slice (A2) (m2) (cp2), .slice (A3) (x.oracles.length) (cp3)]) ty26 0 rg rfl rfl rfl rfl rfl ?_
     refine JJ.callp bo17 rg rfl rfl rfl rfl (parts k _ _ x hre0 hsz) fun pp I12 hle13 hpp => ?_
     replace hre0 := hre0.mono hle13
     replace hgl := hgl.mono hle13
     replace hx := hx.mono hle13
     replace hx3 := hx3.mono hle13
     refine JJ.move rg rfl rfl rfl ?_
     refine JJ.callp bo54 rg rfl rfl rfl rfl (containsFunc_Stmts _ k pp.1 x.parts.length pp.2 x.parts (fun a => !St.okl a 1) 50 [] [] (by omega) hpp bo50 (fun I1 hl A m cp a ha hr => right3 I1 k A m cp a hr (hgl.mono hl) (by have := parts_szl ha; omega))) fun _ I14 hle15 _ => ?_
     replace hre0 := hre0.mono hle15
     replace hgl := hgl.mono hle15
     replace hx := hx.mono hle15
     replace hx3 := hx3.mono hle15
     replace hpp := hpp.mono hle15
     refine JJ.not rg rfl rfl rfl ?_
     refine JJ.pick (b := true) rg rfl rfl rfl rfl ?_
     refine JJ.assign rg rfl rfl rfl ?_
     refine JJ.regionEnd ?_
     refine JJ.ret1 rfl Try.func39 rfl rfl (fun h h_ => ⟨(), trivial, congrArg Value.bool (show (!(x.parts.any (fun a => !St.okl a 1))) = x.right from by rw [right_eq]; try simp only [hc1b]; try simp only [hg6_6b]; try simp only [hg6_13b]; simp), trivial⟩)
    ·
     have hg6_13b : (!(x.oracles.any (fun a => !(nameB a.name.data.toList && a.e.ok 8)))) = false := hg6_13
     replace hg6_13 := not_f hg6_13
     replace hg6_13b := hg6_13
     refine JJ.gskip rg rfl rfl ?_
     refine JJ.gskip rg rfl rfl ?_
     refine JJ.gskip rg rfl rfl ?_
     refine JJ.gskip rg rfl rfl ?_
     refine JJ.gskip rg rfl rfl ?_
     refine JJ.pick (b := false) rg rfl rfl rfl rfl ?_
     refine JJ.assign rg rfl rfl rfl ?_
     refine JJ.regionEnd ?_
     refine JJ.ret1 rfl Try.func39 rfl rfl (fun h h_ => ⟨(), trivial, congrArg Value.bool (show (false) = x.right from by rw [right_eq]; try simp only [hc1b]; try simp only [hg6_6b]; try simp only [hg6_13b]; simp), trivial⟩)
   ·
    have hg6_6b : (!(x.procs.any (fun a => !nameB a.name.data.toList))) = false := hg6_6
    replace hg6_6 := not_f hg6_6
    replace hg6_6b := hg6_6
    refine JJ.gskip rg rfl rfl ?_
    refine JJ.gskip rg rfl rfl ?_
    refine JJ.gskip rg rfl rfl ?_
    refine JJ.gskip rg rfl rfl ?_
    refine JJ.gskip rg rfl rfl ?_
    refine JJ.pick (b := false) rg rfl rfl rfl rfl ?_
    refine JJ.move rg rfl rfl rfl ?_
    refine JJ.gskip rg rfl rfl ?_
    refine JJ.gskip rg rfl rfl ?_
    refine JJ.gskip rg rfl rfl ?_
    refine JJ.gskip rg rfl rfl ?_
    refine JJ.gskip rg rfl rfl ?_
    refine JJ.pick (b := false) rg rfl rfl rfl rfl ?_
    refine JJ.assign rg rfl rfl rfl ?_
    refine JJ.regionEnd ?_
    refine JJ.ret1 rfl Try.func39 rfl rfl (fun h h_ => ⟨(), trivial, congrArg Value.bool (show (false) = x.right from by rw [right_eq]; try simp only [hc1b]; try simp only [hg6_6b]; simp), trivial⟩)
end Wh
end Go.Proofs.Ytlcdafeoionnhaa
