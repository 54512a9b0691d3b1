/- Walks of functions, printed by a program of this session (wip/tool/eng.py). -/
import Derived.Test.YtlcdafeoionnhaaProg
import Derived.Test.YtlcdafeoionnhaaSize
import Derived.Test.YtlcdafeoionnhaaWb
import Derived.Test.YtlcdafeoionnhaaWc
import Derived.Test.YtlcdafeoionnhaaWd
namespace Go.Proofs.Ytlcdafeoionnhaa
open Go
set_option linter.unusedVariables false
set_option linter.unusedSimpArgs false
namespace We
theorem bo47 : bodyOk Try.prog 47 = true := by kernel_rfl
theorem bo49 : bodyOk Try.prog 49 = true := by kernel_rfl
theorem bo51 : bodyOk Try.prog 51 = true := by kernel_rfl
theorem eo22 : elemO Try.prog 22 = some (44, 2) := by kernel_rfl
theorem eo57 : elemO Try.prog 57 = some (23, 1) := by kernel_rfl
theorem fo26_0 : fieldO Try.prog 26 0 = some 0 := by kernel_rfl
theorem fo26_1 : fieldO Try.prog 26 1 = some 1 := by kernel_rfl
theorem fo26_2 : fieldO Try.prog 26 2 = some 2 := by kernel_rfl
theorem fo44_0 : fieldO Try.prog 44 0 = some 0 := by kernel_rfl
theorem fo44_1 : fieldO Try.prog 44 1 = some 1 := by kernel_rfl
theorem fo55_0 : fieldO Try.prog 55 0 = some 0 := by kernel_rfl
theorem fo55_1 : fieldO Try.prog 55 1 = some 1 := by kernel_rfl
theorem io23 : infoO Try.prog 23 = some (.slice none 0 0, 24) := by kernel_rfl
theorem sl57 : sliceOfT Try.prog 57 = true := by kernel_rfl
theorem ss22 : isSliceT Try.prog 22 = true := by kernel_rfl
theorem ty22 : tyI Try.prog 22 = some (false, 1) := by kernel_rfl
theorem ty23 : tyI Try.prog 23 = some (false, 1) := by kernel_rfl
theorem ty44 : tyI Try.prog 44 = some (true, 2) := by kernel_rfl
theorem ty53 : tyI Try.prog 53 = some (true, 4) := by kernel_rfl
theorem ty9 : tyI Try.prog 9 = some (false, 1) := by kernel_rfl
theorem zo23 : zeroOf Try.prog 23 = some (.slice none 0 0) := by kernel_rfl
theorem zo44 : zeroOf Try.prog 44 = some (.agg #[.string ⟨#[]⟩, .slice none 0 0]) := by kernel_rfl
open Wb Wc Wd
theorem right1 (I : Hp) (k : Nat) (cs : List Value) (x : Pc) (hre : RPc k I cs x) (hgl : GL 0 I) : Fn Try.prog 46 #[.agg cs.toArray] I [] (RB (!nameB x.name.data.toList)) := by
 obtain ⟨A, m, cp, rfl, hx⟩ := hre
 refine Fn.of (args := [_]) Try.func46 rfl rfl ?_
 refine JJ.seq ?_
 refine JJ.region rfl fun rg => ?_
 refine JJ.box (cs := [.string (x.name), .slice (A) (m) (cp)]) rg rfl rfl rfl rfl fun b1 => ?_
 refine JJ.assign rg rfl rfl rfl ?_
 refine JJ.regionEnd ?_
 refine JJ.seq ?_
 refine JJ.region rfl fun rg => ?_
 refine JJ.fieldAddr (a' := ⟨b1, 0, none⟩) fo44_0 rg rfl rfl rfl rfl ?_
 refine JJ.loadL (v := .string (x.name)) ty9 0 rg rfl rfl rfl rfl rfl ?_
 refine JJ.callp bo47 rg rfl rfl rfl rfl (Name _ x.name hgl) fun _ I2 hle3 _ => ?_
 refine JJ.not rg rfl rfl rfl ?_
 refine JJ.assign rg rfl rfl rfl ?_
 refine JJ.regionEnd ?_
 refine JJ.ret1 rfl Try.func46 rfl rfl (fun h h_ => ⟨(), trivial, congrArg (Value.bool) (show (!(nameB x.name.data.toList)) = (!nameB x.name.data.toList) from by simp [*]), trivial⟩)
theorem right2 (I : Hp) (k : Nat) (cs : List Value) (x : Oc) (hre : ROc k I cs x) (hgl : GL 0 I) (hsz : x.e.sz ≤ 4294967296) : Fn Try.prog 48 #[.agg cs.toArray] I [] (RB (!(nameB x.name.data.toList && x.e.ok 8))) := by
 obtain ⟨A, m, cp, rfl, hx⟩ := hre
 change RE k I _ x.e at hx
 have hexm : ∀ I2, I.le I2 → RE k I2 [.int .i64 x.e.op, .int .i64 x.e.n, .string x.e.s, .slice A m cp] x.e := fun I2 l => RE.mono l hx
 have hl0 := Hp.le.refl I
 refine Fn.of (args := [_]) Try.func48 rfl rfl ?_
 refine JJ.seq ?_
 refine JJ.region rfl fun rg => ?_
 refine JJ.box (cs := [.string (x.name), .int .i64 (x.e.op), .int .i64 (x.e.n), .string (x.e.s), .slice (A) (m) (cp)]) rg rfl rfl rfl rfl fun b1 => ?_
 refine JJ.assign rg rfl rfl rfl ?_
 refine JJ.regionEnd ?_
 refine JJ.seq ?_
 refine JJ.cut (X := Hp) (fun _ => [(2, .bool (!(nameB x.name.data.toList && x.e.ok 8)))]) (fun x => x) (fun _ => [blk b1 (.cells ([.string (x.name), .int .i64 (x.e.op), .int .i64 (x.e.n), .string (x.e.s), .slice (A) (m) (cp)]).toArray 55)]) (fun x => Hp.le (I) x) (fun hk3 => ?_) ?_
 ·
  have hleM2 := Hp.le.refl (I)
  refine JJ.region rfl fun rg => ?_
  refine JJ.fieldAddr (a' := ⟨b1, 0, none⟩) fo55_0 rg rfl rfl rfl rfl ?_
  refine JJ.loadL (v := .string (x.name)) ty9 0 rg rfl rfl rfl rfl rfl ?_
  refine JJ.callp bo47 rg rfl rfl rfl rfl (Name _ x.name hgl) fun _ I6 hle7 _ => ?_
  replace hgl := hgl.mono hle7
  replace hl0 := hl0.trans hle7
  replace hleM2 := hleM2.trans hle7
  refine JJ.not rg rfl rfl rfl ?_
  refine JJ.move rg rfl rfl rfl ?_
  refine JJ.split 7 rfl (fun hg1_5 => ?_) (fun hg1_5 => ?_)
  ·
   have hg1_5b : (!(nameB x.name.data.toList)) = true := hg1_5
   replace hg1_5 := not_t hg1_5
   replace hg1_5b := hg1_5
   refine JJ.gskip rg rfl rfl ?_
   refine JJ.gskip rg rfl rfl ?_
   refine JJ.gskip rg rfl rfl ?_
   refine JJ.gskip rg rfl rfl ?_
   refine JJ.pick (b := true) rg rfl rfl rfl rfl ?_
   refine JJ.assign rg rfl rfl rfl ?_
   refine JJ.regionEnd ?_
   refine JJ.keep _ ?_ (hk3 _ hleM2)
   exact ⟨congrArg (fun b => some (Value.bool b)) (show (true) = (!(nameB x.name.data.toList && x.e.ok 8)) from by try simp only [hg1_5b]; simp), trivial⟩
  ·
   have hg1_5b : (!(nameB x.name.data.toList)) = false := hg1_5
   replace hg1_5 := not_f hg1_5
   replace hg1_5b := hg1_5
   refine JJ.fieldAddr (a' := ⟨b1, 1, none⟩) fo55_1 rg rfl rfl rfl rfl ?_
   refine JJ.loadL (v := .agg #[.int .i64 (x.e.op), .int .i64 (x.e.n), .string (x.e.s), .slice (A) (m) (cp)]) ty53 0 rg rfl rfl rfl rfl rfl ?_
   refine JJ.callp bo49 rg rfl rfl rfl rfl (expr _ _ _ x.e 8 (hexm _ hl0) hgl (by omega) (by omega)) fun _ I8 hle9 _ => ?_
   replace hgl := hgl.mono hle9
   replace hl0 := hl0.trans hle9
   replace hleM2 := hleM2.trans hle9
   refine JJ.not rg rfl rfl rfl ?_
   refine JJ.pick (b := false) rg rfl rfl rfl rfl ?_
   refine JJ.assign rg rfl rfl rfl ?_
   refine JJ.regionEnd ?_
   refine JJ.keep _ ?_ (hk3 _ hleM2)
   exact ⟨congrArg (fun b => some (Value.bool b)) (show (!(x.e.ok 8)) = (!(nameB x.name.data.toList && x.e.ok 8)) from by try simp only [hg1_5b]; simp), trivial⟩
 ·
  intro I4 hle5
  replace hgl := hgl.mono hle5
  replace hl0 := hl0.trans hle5
  refine JJ.ret1 rfl Try.func48 rfl rfl (fun h h_ => ⟨(), trivial, rfl, trivial⟩)
theorem right3 (I : Hp) (k : Nat) (A : Option Addr) (n cp : Nat) (ds : List St) (hx : RSs k I A n cp ds) (hgl : GL 0 I) (hsz : St.szl ds ≤ 4294967296) : Fn Try.prog 50 #[.slice (A) (n) (cp)] I [] (RB (!St.okl ds 1)) := by
 refine Fn.of (args := [_]) Try.func50 rfl rfl ?_
 refine JJ.seq ?_
 refine JJ.region rfl fun rg => ?_
 refine JJ.assign rg rfl rfl rfl ?_
 refine JJ.regionEnd ?_
 refine JJ.seq ?_
 refine JJ.region rfl fun rg => ?_
 refine JJ.move rg rfl rfl rfl ?_
 refine JJ.callp bo51 rg rfl rfl rfl rfl (block _ k (stmt k) A n cp ds 1 hx hgl hsz (by omega)) fun _ I1 hle2 _ => ?_
 refine JJ.not rg rfl rfl rfl ?_
 refine JJ.assign rg rfl rfl rfl ?_
 refine JJ.regionEnd ?_
 refine JJ.ret1 rfl Try.func50 rfl rfl (fun h h_ => ⟨(), trivial, congrArg (Value.bool) (show (!(St.okl ds 1)) = (!St.okl ds 1) from by simp [*]), trivial⟩)
theorem parts (k : Nat) (I : Hp) (cs : List Value) (x : Pg) (hre : RPg k I cs x) (hsz : x.sz ≤ 4294967296) : Fn Try.prog 17 #[.agg cs.toArray] I [] (Ret (X := Option Addr × Nat) (fun p I' => RSxs k I' p.1 x.parts.length p.2 x.parts) (fun p => .slice p.1 x.parts.length p.2) fun _ => []) := by
 obtain ⟨A, m, cp, A1, m1, cp1, A2, m2, cp2, A3, m3, cp3, rfl, hx, hx1, hx2, hx3⟩ := hre
 obtain rfl := hx.1
 have hz : x.sz = Pc.szl x.procs + St.szl x.main + St.szl x.recover + Oc.szl x.oracles := rfl
 have hll := Pc.szl_len x.procs
 change RPcs k I A _ cp x.procs at hx
 have hpl : x.parts.length = x.procs.length + 2 := by simp [Pg.parts]
 refine Fn.of (args := [_]) Try.func17 rfl rfl ?_
 refine JJ.seq ?_
 refine JJ.region rfl fun rg => ?_
 refine JJ.box (cs := [.slice (A) (x.procs.length) (cp), .slice (A1) (m1) (cp1), .slice (A2) (m2) (cp2), .slice (A3) (m3) (cp3)]) rg rfl rfl rfl rfl fun b1 => ?_
 refine JJ.assign rg rfl rfl rfl ?_
 refine JJ.regionEnd ?_
 refine JJ.seq ?_
 refine JJ.region rfl fun rg => ?_
 refine JJ.assign rg rfl rfl rfl ?_
 refine JJ.regionEnd ?_
 refine JJ.seq ?_
 refine JJ.seq ?_
 refine JJ.region rfl fun rg => ?_
 refine JJ.fieldAddr (a' := ⟨b1, 0, none⟩) fo26_0 rg rfl rfl rfl rfl ?_
 refine JJ.loadL (v := .slice (A) (x.procs.length) (cp)) ty22 0 rg rfl rfl rfl rfl rfl ?_
 refine JJ.lenSlice ss22 rg rfl rfl rfl ?_
 refine JJ.move rg rfl rfl rfl ?_
 refine JJ.regionEnd ?_
 refine JJ.block ?_
 refine JJ.ownNil 23 1 ?_
 refine JJ.induct (X := Nat × Hp × Option Addr × Nat × List (List Value))
  (fun x_ => [(1, .pointer (some ⟨b1, 0, none⟩)), (7, .slice A x.procs.length cp), (8, .int .i64 x.procs.length), (9, .int .i64 x_.1), (3, .slice x_.2.2.1 x_.1 x_.2.2.2.1)])
  (fun x_ => x_.2.1) (fun x_ => [own 23 1 x_.2.2.1 x_.1 x_.2.2.2.1 x_.2.2.2.2.flatten, blk b1 (.cells ([.slice (A) (x.procs.length) (cp), .slice (A1) (m1) (cp1), .slice (A2) (m2) (cp2), .slice (A3) (m3) (cp3)]).toArray 26)])
  (fun x_ => x_.1 ≤ x.procs.length ∧ I.le x_.2.1 ∧ All2 (fun cs d => cs.length = 1 ∧ RSx k x_.2.1 cs d) x_.2.2.2.2 ((x.procs.take x_.1).map (·.body)))
  (fun x_ => x.procs.length - x_.1) (0, I, none, 0, []) ⟨Nat.zero_le _, .refl _, by simp; exact .nil⟩ (fun h => JJ.keep _ (by repeat (first | exact trivial | refine ⟨rfl, ?_⟩)) h) ?_
 rintro ⟨j, I1, B1, c1, css⟩ ⟨hj, hle, hall⟩ ih
 dsimp only at hj hle hall ih ⊢
 refine JJ.seq ?_
 refine JJ.region rfl fun rg => ?_
 refine JJ.bin rg rfl rfl rfl rfl rfl ?_
 refine JJ.regionEnd ?_
 refine JJ.seq ?_
 refine JJ.cond2 rfl (fun hc3 => ?_) (fun hc3 => ?_)
 ·
  have hc3b : (decide ((((j : Nat) : Int) : Int) < ((x.procs.length : Nat) : Int))) = true := hc3
  replace hc3 := of_decide_eq_true hc3
  have hlt : j < x.procs.length := by omega
  obtain ⟨d, hd⟩ : ∃ d, x.procs[j]? = some d := ⟨_, List.getElem?_eq_getElem hlt⟩
  refine JJ.skip ?_
  refine JJ.seq ?_
  refine JJ.block ?_
  refine JJ.seq ?_
  refine JJ.region rfl fun rg => ?_
  obtain ⟨a, cs, hA, hcap, hcl, hre, hrow⟩ := RSl.get (RPcs.mono hx hle) hd
  cases hA
  obtain ⟨D1, dm, dc, rfl, hre⟩ := hre
  refine JJ.indexAddr (a' := a.add (j * 2)) eo22 rg rfl rfl rfl rfl (by omega) (by omega) rfl ?_
  refine JJ.loadI (v := .agg #[.string (d.name), .slice (D1) (dm) (dc)]) ty44 rg rfl rfl rfl hrow rfl ?_
  refine JJ.alloc (cs := [.string (⟨#[]⟩), .slice (none) (0) (0)]) zo44 rfl rg rfl rfl fun b2 => ?_
  refine JJ.store (cs' := [.string (d.name), .slice (D1) (dm) (dc)]) ty44 0 rg rfl rfl rfl rfl rfl rfl rfl rfl rfl rfl rfl ?_
  refine JJ.regionEnd ?_
  refine JJ.region rfl fun rg => ?_
  refine JJ.move rg rfl rfl rfl ?_
  refine JJ.fieldAddr (a' := ⟨b2, 1, none⟩) fo44_1 rg rfl rfl rfl rfl ?_
  refine JJ.loadL (v := .slice (D1) (dm) (dc)) ty23 0 rg rfl rfl rfl rfl rfl ?_
  refine JJ.buildSlice (cs := [.slice (D1) (dm) (dc)]) eo57 zo23 rg rfl rfl rfl rfl rfl rfl rfl fun b3 => ?_
  refine JJ.append eo57 io23 rfl 2 rg rfl rfl rfl rfl rfl (SrcOk.ofLit (news := [.slice (D1) (dm) (dc)]) sl57 0 rfl (rfl) (by simp [Value.oneCell'])) (by omega) fun A4 c5 => ?_
  dsimp only [List.set]
  refine JJ.assign rg rfl rfl rfl ?_
  refine JJ.regionEnd ?_
  refine JJ.inBlock ?_
  refine JJ.region rfl fun rg => ?_
  refine JJ.binI (z := ((j + 1 : Nat) : Int)) rg rfl rfl rfl rfl rfl (wrap_to (by omega) (by omega) (by omega)) ?_
  refine JJ.move rg rfl rfl rfl ?_
  refine JJ.regionEnd ?_
  refine JJ.pull 2 rfl rfl ?_
  refine JJ.pull 1 rfl rfl ?_
  refine JJ.drop ?_
  refine JJ.pull 1 rfl rfl ?_
  refine JJ.drop ?_
  rw [show css.flatten ++ [.slice D1 dm dc] = (css ++ [[Value.slice D1 dm dc]]).flatten from by simp]
  refine JJ.keep _ ?_ (ih (j + 1, _, A4, c5, css ++ [[.slice D1 dm dc]]) ⟨hlt, hle, ?_⟩ (by dsimp only; omega))
  · repeat (first | exact trivial | refine ⟨rfl, ?_⟩)
  ·
   rw [List.take_add_one, hd]
   simp only [Option.toList_some, List.map_append, List.map_cons, List.map_nil]
   exact hall.append (.cons ⟨rfl, _, _, _, rfl, hre⟩ .nil)
 ·
  have hc3b : (decide ((((j : Nat) : Int) : Int) < ((x.procs.length : Nat) : Int))) = false := hc3
  replace hc3 := of_decide_eq_false hc3
  refine JJ.exit rfl ?_
  refine JJ.seq ?_
  refine JJ.region rfl fun rg => ?_
  refine JJ.move rg rfl rfl rfl ?_
  refine JJ.fieldAddr (a' := ⟨b1, 1, none⟩) fo26_1 rg rfl rfl rfl rfl ?_
  refine JJ.loadL (v := .slice (A1) (m1) (cp1)) ty23 1 rg rfl rfl rfl rfl rfl ?_
  refine JJ.fieldAddr (a' := ⟨b1, 2, none⟩) fo26_2 rg rfl rfl rfl rfl ?_
  refine JJ.loadL (v := .slice (A2) (m2) (cp2)) ty23 1 rg rfl rfl rfl rfl rfl ?_
  refine JJ.buildSlice (cs := [.slice (A1) (m1) (cp1), .slice (A2) (m2) (cp2)]) eo57 zo23 rg rfl rfl rfl rfl rfl rfl rfl fun b6 => ?_
  refine JJ.append eo57 io23 rfl 1 rg rfl rfl rfl rfl rfl (SrcOk.ofLit (news := [.slice (A1) (m1) (cp1), .slice (A2) (m2) (cp2)]) sl57 0 rfl (rfl) (by simp [Value.oneCell'])) (by omega) fun A7 c8 => ?_
  dsimp only [List.set]
  refine JJ.assign rg rfl rfl rfl ?_
  refine JJ.regionEnd ?_
  refine JJ.pull 1 rfl rfl ?_
  refine JJ.shareOwn fun I2 hle2 hs => ?_
  obtain rfl : j = x.procs.length := by omega
  rw [hpl]
  refine JJ.ret1 rfl Try.func17 rfl rfl fun h _ => ⟨(A7, c8), ?_, rfl, trivial⟩
  dsimp only
  rw [show css.flatten ++ [.slice A1 m1 cp1, .slice A2 m2 cp2] = (css ++ [[Value.slice A1 m1 cp1], [Value.slice A2 m2 cp2]]).flatten from by simp] at hs
  refine RSl.of hs hpl.symm ?_
  rw [List.take_length] at hall
  exact (hall.up (RSx k) (fun _ _ => RSx.mono hle2)).append (.cons ⟨rfl, _, _, _, rfl, hx1.mono (hle.trans hle2)⟩ (.cons ⟨rfl, _, _, _, rfl, hx2.mono (hle.trans hle2)⟩ .nil))
end We
end Go.Proofs.Ytlcdafeoionnhaa
