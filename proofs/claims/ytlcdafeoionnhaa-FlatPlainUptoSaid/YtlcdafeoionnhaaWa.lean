/- Walks of functions, printed by a program of this session (wip/tool/eng.py). -/
import Derived.Test.YtlcdafeoionnhaaProg
import Derived.Test.YtlcdafeoionnhaaDraw
import Derived.Test.YtlcdafeoionnhaaSize
namespace Go.Proofs.Ytlcdafeoionnhaa
open Go
set_option linter.unusedVariables false
set_option linter.unusedSimpArgs false
namespace Wa
theorem bo19 : bodyOk Try.prog 19 = true := by kernel_rfl
theorem bo30 : bodyOk Try.prog 30 = true := by kernel_rfl
theorem bo31 : bodyOk Try.prog 31 = true := by kernel_rfl
theorem bo32 : bodyOk Try.prog 32 = true := by kernel_rfl
theorem bo33 : bodyOk Try.prog 33 = true := by kernel_rfl
theorem bo34 : bodyOk Try.prog 34 = true := by kernel_rfl
theorem bo35 : bodyOk Try.prog 35 = true := by kernel_rfl
theorem bo38 : bodyOk Try.prog 38 = true := by kernel_rfl
theorem eo22 : elemO Try.prog 22 = some (44, 2) := by kernel_rfl
theorem eo23 : elemO Try.prog 23 = some (35, 7) := by kernel_rfl
theorem eo24 : elemO Try.prog 24 = some (55, 5) := by kernel_rfl
theorem eo33 : elemO Try.prog 33 = some (53, 4) := by kernel_rfl
theorem fo26_0 : fieldO Try.prog 26 0 = some 0 := by kernel_rfl
theorem fo26_1 : fieldO Try.prog 26 1 = some 1 := by kernel_rfl
theorem fo26_2 : fieldO Try.prog 26 2 = some 2 := by kernel_rfl
theorem fo26_3 : fieldO Try.prog 26 3 = some 3 := by kernel_rfl
theorem fo35_3 : fieldO Try.prog 35 3 = some 3 := by kernel_rfl
theorem fo35_4 : fieldO Try.prog 35 4 = some 4 := by kernel_rfl
theorem fo35_5 : fieldO Try.prog 35 5 = some 5 := by kernel_rfl
theorem fo44_0 : fieldO Try.prog 44 0 = some 0 := by kernel_rfl
theorem fo44_1 : fieldO Try.prog 44 1 = some 1 := by kernel_rfl
theorem fo53_3 : fieldO Try.prog 53 3 = some 3 := by kernel_rfl
theorem fo55_0 : fieldO Try.prog 55 0 = some 0 := by kernel_rfl
theorem fo55_1 : fieldO Try.prog 55 1 = some 1 := by kernel_rfl
theorem io35 : infoO Try.prog 35 = some (.agg #[.int .i64 0, .string ⟨#[]⟩, .int .i64 0, .slice none 0 0, .slice none 0 0, .slice none 0 0, .bool false], 112) := by kernel_rfl
theorem io44 : infoO Try.prog 44 = some (.agg #[.string ⟨#[]⟩, .slice none 0 0], 40) := by kernel_rfl
theorem io53 : infoO Try.prog 53 = some (.agg #[.int .i64 0, .int .i64 0, .string ⟨#[]⟩, .slice none 0 0], 56) := by kernel_rfl
theorem io55 : infoO Try.prog 55 = some (.agg #[.string ⟨#[]⟩, .int .i64 0, .int .i64 0, .string ⟨#[]⟩, .slice none 0 0], 72) := by kernel_rfl
theorem mx : Try.prog.follows .mixedOrders = true := by kernel_rfl
theorem sl22 : sliceOfT Try.prog 22 = true := by kernel_rfl
theorem sl23 : sliceOfT Try.prog 23 = true := by kernel_rfl
theorem sl24 : sliceOfT Try.prog 24 = true := by kernel_rfl
theorem sl33 : sliceOfT Try.prog 33 = true := by kernel_rfl
theorem so26 : structO Try.prog 26 = some [(0, 1), (1, 1), (2, 1), (3, 1)] := by kernel_rfl
theorem so44 : structO Try.prog 44 = some [(0, 1), (1, 1)] := by kernel_rfl
theorem so55 : structO Try.prog 55 = some [(0, 1), (1, 4)] := by kernel_rfl
theorem ss22 : isSliceT Try.prog 22 = true := by kernel_rfl
theorem ss23 : isSliceT Try.prog 23 = true := by kernel_rfl
theorem ss24 : isSliceT Try.prog 24 = true := by kernel_rfl
theorem ss33 : isSliceT Try.prog 33 = true := by kernel_rfl
theorem ty22 : tyI Try.prog 22 = some (false, 1) := by kernel_rfl
theorem ty23 : tyI Try.prog 23 = some (false, 1) := by kernel_rfl
theorem ty24 : tyI Try.prog 24 = some (false, 1) := by kernel_rfl
theorem ty26 : tyI Try.prog 26 = some (true, 4) := by kernel_rfl
theorem ty33 : tyI Try.prog 33 = some (false, 1) := by kernel_rfl
theorem ty35 : tyI Try.prog 35 = some (true, 7) := by kernel_rfl
theorem ty44 : tyI Try.prog 44 = some (true, 2) := by kernel_rfl
theorem ty53 : tyI Try.prog 53 = some (true, 4) := by kernel_rfl
theorem ty55 : tyI Try.prog 55 = some (true, 5) := by kernel_rfl
theorem ty9 : tyI Try.prog 9 = some (false, 1) := by kernel_rfl
theorem zo26 : zeroOf Try.prog 26 = some (.agg #[.slice none 0 0, .slice none 0 0, .slice none 0 0, .slice none 0 0]) := by kernel_rfl
theorem zo35 : zeroOf Try.prog 35 = some (.agg #[.int .i64 0, .string ⟨#[]⟩, .int .i64 0, .slice none 0 0, .slice none 0 0, .slice none 0 0, .bool false]) := by kernel_rfl
theorem zo44 : zeroOf Try.prog 44 = some (.agg #[.string ⟨#[]⟩, .slice none 0 0]) := by kernel_rfl
theorem zo53 : zeroOf Try.prog 53 = some (.agg #[.int .i64 0, .int .i64 0, .string ⟨#[]⟩, .slice none 0 0]) := by kernel_rfl
theorem zo55 : zeroOf Try.prog 55 = some (.agg #[.string ⟨#[]⟩, .int .i64 0, .int .i64 0, .string ⟨#[]⟩, .slice none 0 0]) := by kernel_rfl
theorem each_Expr (k : Nat) (I : Hp) (A : Option Addr) (n cp : Nat) (ds : List Ex) (F : Ex → Ex) (g : Nat) (fs caps : List Value) (hn : ds.length ≤ 4294967296) (hl : REs k I A n cp ds) (hg : bodyOk Try.prog g = true)
  (hF : ∀ I1, I.le I1 → ∀ cs d, d ∈ ds → RE k I1 cs d → Fn Try.prog g (fs ++ [Value.agg cs.toArray] ++ caps).toArray I1 [] (Ret (X := List Value) (fun cs' I' => RE k I' cs' (F d)) (fun cs' => .agg cs'.toArray) fun _ => [])) :
  Fn Try.prog 38 #[.slice A n cp, .func (.func g) fs.toArray caps.toArray] I [] (Ret (X := Option Addr × Nat) (fun p I' => REs k I' p.1 ds.length p.2 (ds.map F)) (fun p => .slice p.1 ds.length p.2) fun _ => []) := by
 have hnn := hl.1
 refine Fn.of (args := [_, _]) Try.func38 rfl rfl ?_
 refine JJ.seq ?_
 refine JJ.region rfl fun rg => ?_
 refine JJ.assign rg rfl rfl rfl ?_
 refine JJ.regionEnd ?_
 refine JJ.seq ?_
 refine JJ.region rfl fun rg => ?_
 refine JJ.assign rg rfl rfl rfl ?_
 refine JJ.regionEnd ?_
 refine JJ.seq ?_
 refine JJ.seq ?_
 refine JJ.region rfl fun rg => ?_
 refine JJ.move rg rfl rfl rfl ?_
 refine JJ.lenSlice ss33 rg rfl rfl rfl ?_
 refine JJ.move rg rfl rfl rfl ?_
 refine JJ.regionEnd ?_
 refine JJ.block ?_
 refine JJ.ownNil 53 4 ?_
 refine JJ.induct (X := Nat × Hp × Option Addr × Nat × List (List Value))
  (fun x => [(1, .func (.func g) fs.toArray caps.toArray), (8, .slice A n cp), (9, .int .i64 n), (10, .int .i64 x.1), (5, .slice x.2.2.1 x.1 x.2.2.2.1)])
  (fun x => x.2.1) (fun x => [own 53 4 x.2.2.1 x.1 x.2.2.2.1 x.2.2.2.2.flatten])
  (fun x => x.1 ≤ ds.length ∧ I.le x.2.1 ∧ All2 (fun cs d => cs.length = 4 ∧ RE k x.2.1 cs d) x.2.2.2.2 ((ds.take x.1).map F))
  (fun x => ds.length - x.1) (0, I, none, 0, []) ⟨Nat.zero_le _, .refl _, by simp; exact .nil⟩ (fun h => JJ.keep _ (by repeat (first | exact trivial | refine ⟨rfl, ?_⟩)) h) ?_
 rintro ⟨j, I1, A1, c1, css⟩ ⟨hj, hle, hall⟩ ih
 dsimp only at hj hle hall ih ⊢
 refine JJ.seq ?_
 refine JJ.region rfl fun rg => ?_
 refine JJ.bin rg rfl rfl rfl rfl rfl ?_
 refine JJ.regionEnd ?_
 refine JJ.seq ?_
 refine JJ.cond2 rfl (fun hc3 => ?_) (fun hc3 => ?_)
 ·
  have hc3b : (decide ((((j : Nat) : Int) : Int) < (n : Int))) = true := hc3
  replace hc3 := of_decide_eq_true hc3
  have hlt : j < ds.length := by omega
  obtain ⟨d, hd⟩ : ∃ d, ds[j]? = some d := ⟨_, List.getElem?_eq_getElem hlt⟩
  refine JJ.skip ?_
  refine JJ.seq ?_
  refine JJ.block ?_
  refine JJ.seq ?_
  refine JJ.region rfl fun rg => ?_
  obtain ⟨a, cs, hA, hcap, hcl, hre, hrow⟩ := RSl.get (REs.mono hl hle) hd
  cases hA
  refine JJ.indexAddr (a' := a.add (j * 4)) eo33 rg rfl rfl rfl rfl (by omega) (by omega) rfl ?_
  refine JJ.loadI (v := .agg (cs).toArray) ty53 rg rfl rfl rfl hrow (ldV_all hcl) ?_
  refine JJ.alloc (cs := [.int .i64 0, .int .i64 0, .string (⟨#[]⟩), .slice (none) (0) (0)]) zo53 rfl rg rfl rfl fun b1 => ?_
  refine JJ.store (cs' := cs) ty53 0 rg rfl rfl rfl rfl rfl rfl (by simp [hcl]) (by simpa using hre.one) (by simp [hcl]) (stC_all (by simp [hcl])) rfl ?_
  refine JJ.regionEnd ?_
  refine JJ.region rfl fun rg => ?_
  refine JJ.move rg rfl rfl rfl ?_
  refine JJ.move rg rfl rfl rfl ?_
  refine JJ.loadL (v := .agg (cs).toArray) ty53 0 rg rfl rfl rfl rfl (ldV_all hcl) ?_
  refine JJ.callp hg rg rfl rfl rfl rfl (hF _ hle cs d (List.mem_of_getElem? hd) hre) fun cs1 I2 hle2 hre1 => ?_
  replace hall := hall.up (RE k) (fun _ _ => RE.mono hle2 )
  replace hle := hle.trans hle2
  have hcl1 := hre1.len
  refine JJ.buildSlice (cs := cs1) eo33 zo53 rg rfl rfl rfl rfl rfl (fillA_one (by simp) hcl1) rfl fun b2 => ?_
  refine JJ.append eo33 io53 rfl 2 rg rfl rfl rfl rfl rfl (SrcOk.ofLit (news := cs1) sl33 0 rfl (by simp [hcl1]) hre1.one) (by omega) fun A3 c4 => ?_
  dsimp only [List.set]
  refine JJ.assign rg rfl rfl rfl ?_
  refine JJ.regionEnd ?_
  refine JJ.inBlock ?_
  refine JJ.region rfl fun rg => ?_
  refine JJ.binI (z := ((j + 1 : Nat) : Int)) rg rfl rfl rfl rfl rfl (wrap_to (by omega) (by omega) (by omega)) ?_
  refine JJ.move rg rfl rfl rfl ?_
  refine JJ.regionEnd ?_
  refine JJ.drop ?_
  refine JJ.drop ?_
  rw [show css.flatten ++ cs1 = (css ++ [cs1]).flatten from by simp]
  refine JJ.keep _ ?_ (ih (j + 1, I2, A3, c4, css ++ [cs1]) ⟨hlt, hle, ?_⟩ (by dsimp only; omega))
  · repeat (first | exact trivial | refine ⟨rfl, ?_⟩)
  ·
   rw [List.take_add_one, hd]
   simp only [Option.toList_some, List.map_append, List.map_cons, List.map_nil]
   exact hall.append (.cons ⟨hcl1, hre1⟩ .nil)
 ·
  have hc3b : (decide ((((j : Nat) : Int) : Int) < (n : Int))) = false := hc3
  replace hc3 := of_decide_eq_false hc3
  refine JJ.exit rfl ?_
  refine JJ.seq ?_
  refine JJ.region rfl fun rg => ?_
  refine JJ.move rg rfl rfl rfl ?_
  refine JJ.assign rg rfl rfl rfl ?_
  refine JJ.regionEnd ?_
  refine JJ.shareOwn fun I2 hle2 hs => ?_
  obtain rfl : j = ds.length := by omega
  refine JJ.ret1 rfl Try.func38 rfl rfl fun h _ => ⟨(A1, c1), ?_, rfl, trivial⟩
  exact RSl.of hs (by simp) (by simp at hall; exact hall.up (RE k) (fun _ _ => RE.mono hle2 ))
theorem each_Stmt (k : Nat) (I : Hp) (A : Option Addr) (n cp : Nat) (ds : List St) (F : St → St) (g : Nat) (fs caps : List Value) (hn : ds.length ≤ 4294967296) (hl : RSs k I A n cp ds) (hg : bodyOk Try.prog g = true)
  (hF : ∀ I1, I.le I1 → ∀ cs d, d ∈ ds → RS k I1 cs d → Fn Try.prog g (fs ++ [Value.agg cs.toArray] ++ caps).toArray I1 [] (Ret (X := List Value) (fun cs' I' => RS k I' cs' (F d)) (fun cs' => .agg cs'.toArray) fun _ => [])) :
  Fn Try.prog 32 #[.slice A n cp, .func (.func g) fs.toArray caps.toArray] I [] (Ret (X := Option Addr × Nat) (fun p I' => RSs k I' p.1 ds.length p.2 (ds.map F)) (fun p => .slice p.1 ds.length p.2) fun _ => []) := by
 have hnn := hl.1
 refine Fn.of (args := [_, _]) Try.func32 rfl rfl ?_
 refine JJ.seq ?_
 refine JJ.region rfl fun rg => ?_
 refine JJ.assign rg rfl rfl rfl ?_
 refine JJ.regionEnd ?_
 refine JJ.seq ?_
 refine JJ.region rfl fun rg => ?_
 refine JJ.assign rg rfl rfl rfl ?_
 refine JJ.regionEnd ?_
 refine JJ.seq ?_
 refine JJ.seq ?_
 refine JJ.region rfl fun rg => ?_
 refine JJ.move rg rfl rfl rfl ?_
 refine JJ.lenSlice ss23 rg rfl rfl rfl ?_
 refine JJ.move rg rfl rfl rfl ?_
 refine JJ.regionEnd ?_
 refine JJ.block ?_
 refine JJ.ownNil 35 7 ?_
 refine JJ.induct (X := Nat × Hp × Option Addr × Nat × List (List Value))
  (fun x => [(1, .func (.func g) fs.toArray caps.toArray), (8, .slice A n cp), (9, .int .i64 n), (10, .int .i64 x.1), (5, .slice x.2.2.1 x.1 x.2.2.2.1)])
  (fun x => x.2.1) (fun x => [own 35 7 x.2.2.1 x.1 x.2.2.2.1 x.2.2.2.2.flatten])
  (fun x => x.1 ≤ ds.length ∧ I.le x.2.1 ∧ All2 (fun cs d => cs.length = 7 ∧ RS k x.2.1 cs d) x.2.2.2.2 ((ds.take x.1).map F))
  (fun x => ds.length - x.1) (0, I, none, 0, []) ⟨Nat.zero_le _, .refl _, by simp; exact .nil⟩ (fun h => JJ.keep _ (by repeat (first | exact trivial | refine ⟨rfl, ?_⟩)) h) ?_
 rintro ⟨j, I1, A1, c1, css⟩ ⟨hj, hle, hall⟩ ih
 dsimp only at hj hle hall ih ⊢
 refine JJ.seq ?_
 refine JJ.region rfl fun rg => ?_
 refine JJ.bin rg rfl rfl rfl rfl rfl ?_
 refine JJ.regionEnd ?_
 refine JJ.seq ?_
 refine JJ.cond2 rfl (fun hc3 => ?_) (fun hc3 => ?_)
 ·
  have hc3b : (decide ((((j : Nat) : Int) : Int) < (n : Int))) = true := hc3
  replace hc3 := of_decide_eq_true hc3
  have hlt : j < ds.length := by omega
  obtain ⟨d, hd⟩ : ∃ d, ds[j]? = some d := ⟨_, List.getElem?_eq_getElem hlt⟩
  refine JJ.skip ?_
  refine JJ.seq ?_
  refine JJ.block ?_
  refine JJ.seq ?_
  refine JJ.region rfl fun rg => ?_
  obtain ⟨a, cs, hA, hcap, hcl, hre, hrow⟩ := RSl.get (RSs.mono hl hle) hd
  cases hA
  refine JJ.indexAddr (a' := a.add (j * 7)) eo23 rg rfl rfl rfl rfl (by omega) (by omega) rfl ?_
  refine JJ.loadI (v := .agg (cs).toArray) ty35 rg rfl rfl rfl hrow (ldV_all hcl) ?_
  refine JJ.alloc (cs := [.int .i64 0, .string (⟨#[]⟩), .int .i64 0, .slice (none) (0) (0), .slice (none) (0) (0), .slice (none) (0) (0), .bool false]) zo35 rfl rg rfl rfl fun b1 => ?_
  refine JJ.store (cs' := cs) ty35 0 rg rfl rfl rfl rfl rfl rfl (by simp [hcl]) (by simpa using hre.one) (by simp [hcl]) (stC_all (by simp [hcl])) rfl ?_
  refine JJ.regionEnd ?_
  refine JJ.region rfl fun rg => ?_
  refine JJ.move rg rfl rfl rfl ?_
  refine JJ.move rg rfl rfl rfl ?_
  refine JJ.loadL (v := .agg (cs).toArray) ty35 0 rg rfl rfl rfl rfl (ldV_all hcl) ?_
  refine JJ.callp hg rg rfl rfl rfl rfl (hF _ hle cs d (List.mem_of_getElem? hd) hre) fun cs1 I2 hle2 hre1 => ?_
  replace hall := hall.up (RS k) (fun _ _ => RS.mono hle2 )
  replace hle := hle.trans hle2
  have hcl1 := hre1.len
  refine JJ.buildSlice (cs := cs1) eo23 zo35 rg rfl rfl rfl rfl rfl (fillA_one (by simp) hcl1) rfl fun b2 => ?_
  refine JJ.append eo23 io35 rfl 2 rg rfl rfl rfl rfl rfl (SrcOk.ofLit (news := cs1) sl23 0 rfl (by simp [hcl1]) hre1.one) (by omega) fun A3 c4 => ?_
  dsimp only [List.set]
  refine JJ.assign rg rfl rfl rfl ?_
  refine JJ.regionEnd ?_
  refine JJ.inBlock ?_
  refine JJ.region rfl fun rg => ?_
  refine JJ.binI (z := ((j + 1 : Nat) : Int)) rg rfl rfl rfl rfl rfl (wrap_to (by omega) (by omega) (by omega)) ?_
  refine JJ.move rg rfl rfl rfl ?_
  refine JJ.regionEnd ?_
  refine JJ.drop ?_
  refine JJ.drop ?_
  rw [show css.flatten ++ cs1 = (css ++ [cs1]).flatten from by simp]
  refine JJ.keep _ ?_ (ih (j + 1, I2, A3, c4, css ++ [cs1]) ⟨hlt, hle, ?_⟩ (by dsimp only; omega))
  · repeat (first | exact trivial | refine ⟨rfl, ?_⟩)
  ·
   rw [List.take_add_one, hd]
   simp only [Option.toList_some, List.map_append, List.map_cons, List.map_nil]
   exact hall.append (.cons ⟨hcl1, hre1⟩ .nil)
 ·
  have hc3b : (decide ((((j : Nat) : Int) : Int) < (n : Int))) = false := hc3
  replace hc3 := of_decide_eq_false hc3
  refine JJ.exit rfl ?_
  refine JJ.seq ?_
  refine JJ.region rfl fun rg => ?_
  refine JJ.move rg rfl rfl rfl ?_
  refine JJ.assign rg rfl rfl rfl ?_
  refine JJ.regionEnd ?_
  refine JJ.shareOwn fun I2 hle2 hs => ?_
  obtain rfl : j = ds.length := by omega
  refine JJ.ret1 rfl Try.func32 rfl rfl fun h _ => ⟨(A1, c1), ?_, rfl, trivial⟩
  exact RSl.of hs (by simp) (by simp at hall; exact hall.up (RS k) (fun _ _ => RS.mono hle2 ))
theorem each_Proc (k : Nat) (I : Hp) (A : Option Addr) (n cp : Nat) (ds : List Pc) (F : Pc → Pc) (g : Nat) (fs caps : List Value) (hn : ds.length ≤ 4294967296) (hl : RPcs k I A n cp ds) (hg : bodyOk Try.prog g = true)
  (hF : ∀ I1, I.le I1 → ∀ cs d, d ∈ ds → RPc k I1 cs d → Fn Try.prog g (fs ++ [Value.agg cs.toArray] ++ caps).toArray I1 [] (Ret (X := List Value) (fun cs' I' => RPc k I' cs' (F d)) (fun cs' => .agg cs'.toArray) fun _ => [])) :
  Fn Try.prog 30 #[.slice A n cp, .func (.func g) fs.toArray caps.toArray] I [] (Ret (X := Option Addr × Nat) (fun p I' => RPcs k I' p.1 ds.length p.2 (ds.map F)) (fun p => .slice p.1 ds.length p.2) fun _ => []) := by
 have hnn := hl.1
 refine Fn.of (args := [_, _]) Try.func30 rfl rfl ?_
 refine JJ.seq ?_
 refine JJ.region rfl fun rg => ?_
 refine JJ.assign rg rfl rfl rfl ?_
 refine JJ.regionEnd ?_
 refine JJ.seq ?_
 refine JJ.region rfl fun rg => ?_
 refine JJ.assign rg rfl rfl rfl ?_
 refine JJ.regionEnd ?_
 refine JJ.seq ?_
 refine JJ.seq ?_
 refine JJ.region rfl fun rg => ?_
 refine JJ.move rg rfl rfl rfl ?_
 refine JJ.lenSlice ss22 rg rfl rfl rfl ?_
 refine JJ.move rg rfl rfl rfl ?_
 refine JJ.regionEnd ?_
 refine JJ.block ?_
 refine JJ.ownNil 44 2 ?_
 refine JJ.induct (X := Nat × Hp × Option Addr × Nat × List (List Value))
  (fun x => [(1, .func (.func g) fs.toArray caps.toArray), (8, .slice A n cp), (9, .int .i64 n), (10, .int .i64 x.1), (5, .slice x.2.2.1 x.1 x.2.2.2.1)])
  (fun x => x.2.1) (fun x => [own 44 2 x.2.2.1 x.1 x.2.2.2.1 x.2.2.2.2.flatten])
  (fun x => x.1 ≤ ds.length ∧ I.le x.2.1 ∧ All2 (fun cs d => cs.length = 2 ∧ RPc k x.2.1 cs d) x.2.2.2.2 ((ds.take x.1).map F))
  (fun x => ds.length - x.1) (0, I, none, 0, []) ⟨Nat.zero_le _, .refl _, by simp; exact .nil⟩ (fun h => JJ.keep _ (by repeat (first | exact trivial | refine ⟨rfl, ?_⟩)) h) ?_
 rintro ⟨j, I1, A1, c1, css⟩ ⟨hj, hle, hall⟩ ih
 dsimp only at hj hle hall ih ⊢
 refine JJ.seq ?_
 refine JJ.region rfl fun rg => ?_
 refine JJ.bin rg rfl rfl rfl rfl rfl ?_
 refine JJ.regionEnd ?_
 refine JJ.seq ?_
 refine JJ.cond2 rfl (fun hc3 => ?_) (fun hc3 => ?_)
 ·
  have hc3b : (decide ((((j : Nat) : Int) : Int) < (n : Int))) = true := hc3
  replace hc3 := of_decide_eq_true hc3
  have hlt : j < ds.length := by omega
  obtain ⟨d, hd⟩ : ∃ d, ds[j]? = some d := ⟨_, List.getElem?_eq_getElem hlt⟩
  refine JJ.skip ?_
  refine JJ.seq ?_
  refine JJ.block ?_
  refine JJ.seq ?_
  refine JJ.region rfl fun rg => ?_
  obtain ⟨a, cs, hA, hcap, hcl, hre, hrow⟩ := RSl.get (RPcs.mono hl hle) hd
  cases hA
  refine JJ.indexAddr (a' := a.add (j * 2)) eo22 rg rfl rfl rfl rfl (by omega) (by omega) rfl ?_
  refine JJ.loadI (v := .agg (cs).toArray) ty44 rg rfl rfl rfl hrow (ldV_all hcl) ?_
  refine JJ.alloc (cs := [.string (⟨#[]⟩), .slice (none) (0) (0)]) zo44 rfl rg rfl rfl fun b1 => ?_
  refine JJ.store (cs' := cs) ty44 0 rg rfl rfl rfl rfl rfl rfl (by simp [hcl]) (by simpa using hre.one) (by simp [hcl]) (stC_all (by simp [hcl])) rfl ?_
  refine JJ.regionEnd ?_
  refine JJ.region rfl fun rg => ?_
  refine JJ.move rg rfl rfl rfl ?_
  refine JJ.move rg rfl rfl rfl ?_
  refine JJ.loadL (v := .agg (cs).toArray) ty44 0 rg rfl rfl rfl rfl (ldV_all hcl) ?_
  refine JJ.callp hg rg rfl rfl rfl rfl (hF _ hle cs d (List.mem_of_getElem? hd) hre) fun cs1 I2 hle2 hre1 => ?_
  replace hall := hall.up (RPc k) (fun _ _ => RPc.mono hle2 )
  replace hle := hle.trans hle2
  have hcl1 := hre1.len
  refine JJ.buildSlice (cs := cs1) eo22 zo44 rg rfl rfl rfl rfl rfl (fillA_one (by simp) hcl1) rfl fun b2 => ?_
  refine JJ.append eo22 io44 rfl 2 rg rfl rfl rfl rfl rfl (SrcOk.ofLit (news := cs1) sl22 0 rfl (by simp [hcl1]) hre1.one) (by omega) fun A3 c4 => ?_
  dsimp only [List.set]
  refine JJ.assign rg rfl rfl rfl ?_
  refine JJ.regionEnd ?_
  refine JJ.inBlock ?_
  refine JJ.region rfl fun rg => ?_
  refine JJ.binI (z := ((j + 1 : Nat) : Int)) rg rfl rfl rfl rfl rfl (wrap_to (by omega) (by omega) (by omega)) ?_
  refine JJ.move rg rfl rfl rfl ?_
  refine JJ.regionEnd ?_
  refine JJ.drop ?_
  refine JJ.drop ?_
  rw [show css.flatten ++ cs1 = (css ++ [cs1]).flatten from by simp]
  refine JJ.keep _ ?_ (ih (j + 1, I2, A3, c4, css ++ [cs1]) ⟨hlt, hle, ?_⟩ (by dsimp only; omega))
  · repeat (first | exact trivial | refine ⟨rfl, ?_⟩)
  ·
   rw [List.take_add_one, hd]
   simp only [Option.toList_some, List.map_append, List.map_cons, List.map_nil]
   exact hall.append (.cons ⟨hcl1, hre1⟩ .nil)
 ·
  have hc3b : (decide ((((j : Nat) : Int) : Int) < (n : Int))) = false := hc3
  replace hc3 := of_decide_eq_false hc3
  refine JJ.exit rfl ?_
  refine JJ.seq ?_
  refine JJ.region rfl fun rg => ?_
  refine JJ.move rg rfl rfl rfl ?_
  refine JJ.assign rg rfl rfl rfl ?_
  refine JJ.regionEnd ?_
  refine JJ.shareOwn fun I2 hle2 hs => ?_
  obtain rfl : j = ds.length := by omega
  refine JJ.ret1 rfl Try.func30 rfl rfl fun h _ => ⟨(A1, c1), ?_, rfl, trivial⟩
  exact RSl.of hs (by simp) (by simp at hall; exact hall.up (RPc k) (fun _ _ => RPc.mono hle2 ))
theorem each_Oracle (k : Nat) (I : Hp) (A : Option Addr) (n cp : Nat) (ds : List Oc) (F : Oc → Oc) (g : Nat) (fs caps : List Value) (hn : ds.length ≤ 4294967296) (hl : ROcs k I A n cp ds) (hg : bodyOk Try.prog g = true)
  (hF : ∀ I1, I.le I1 → ∀ cs d, d ∈ ds → ROc k I1 cs d → Fn Try.prog g (fs ++ [Value.agg cs.toArray] ++ caps).toArray I1 [] (Ret (X := List Value) (fun cs' I' => ROc k I' cs' (F d)) (fun cs' => .agg cs'.toArray) fun _ => [])) :
  Fn Try.prog 33 #[.slice A n cp, .func (.func g) fs.toArray caps.toArray] I [] (Ret (X := Option Addr × Nat) (fun p I' => ROcs k I' p.1 ds.length p.2 (ds.map F)) (fun p => .slice p.1 ds.length p.2) fun _ => []) := by
 have hnn := hl.1
 refine Fn.of (args := [_, _]) Try.func33 rfl rfl ?_
 refine JJ.seq ?_
 refine JJ.region rfl fun rg => ?_
 refine JJ.assign rg rfl rfl rfl ?_
 refine JJ.regionEnd ?_
 refine JJ.seq ?_
 refine JJ.region rfl fun rg => ?_
 refine JJ.assign rg rfl rfl rfl ?_
 refine JJ.regionEnd ?_
 refine JJ.seq ?_
 refine JJ.seq ?_
 refine JJ.region rfl fun rg => ?_
 refine JJ.move rg rfl rfl rfl ?_
 refine JJ.lenSlice ss24 rg rfl rfl rfl ?_
 refine JJ.move rg rfl rfl rfl ?_
 refine JJ.regionEnd ?_
 refine JJ.block ?_
 refine JJ.ownNil 55 5 ?_
 refine JJ.induct (X := Nat × Hp × Option Addr × Nat × List (List Value))
  (fun x => [(1, .func (.func g) fs.toArray caps.toArray), (8, .slice A n cp), (9, .int .i64 n), (10, .int .i64 x.1), (5, .slice x.2.2.1 x.1 x.2.2.2.1)])
  (fun x => x.2.1) (fun x => [own 55 5 x.2.2.1 x.1 x.2.2.2.1 x.2.2.2.2.flatten])
  (fun x => x.1 ≤ ds.length ∧ I.le x.2.1 ∧ All2 (fun cs d => cs.length = 5 ∧ ROc k x.2.1 cs d) x.2.2.2.2 ((ds.take x.1).map F))
  (fun x => ds.length - x.1) (0, I, none, 0, []) ⟨Nat.zero_le _, .refl _, by simp; exact .nil⟩ (fun h => JJ.keep _ (by repeat (first | exact trivial | refine ⟨rfl, ?_⟩)) h) ?_
 rintro ⟨j, I1, A1, c1, css⟩ ⟨hj, hle, hall⟩ ih
 dsimp only at hj hle hall ih ⊢
 refine JJ.seq ?_
 refine JJ.region rfl fun rg => ?_
 refine JJ.bin rg rfl rfl rfl rfl rfl ?_
 refine JJ.regionEnd ?_
 refine JJ.seq ?_
 refine JJ.cond2 rfl (fun hc3 => ?_) (fun hc3 => ?_)
 ·
  have hc3b : (decide ((((j : Nat) : Int) : Int) < (n : Int))) = true := hc3
  replace hc3 := of_decide_eq_true hc3
  have hlt : j < ds.length := by omega
  obtain ⟨d, hd⟩ : ∃ d, ds[j]? = some d := ⟨_, List.getElem?_eq_getElem hlt⟩
  refine JJ.skip ?_
  refine JJ.seq ?_
  refine JJ.block ?_
  refine JJ.seq ?_
  refine JJ.region rfl fun rg => ?_
  obtain ⟨a, cs, hA, hcap, hcl, hre, hrow⟩ := RSl.get (ROcs.mono hl hle) hd
  cases hA
  refine JJ.indexAddr (a' := a.add (j * 5)) eo24 rg rfl rfl rfl rfl (by omega) (by omega) rfl ?_
  refine JJ.loadI (v := .agg (cs).toArray) ty55 rg rfl rfl rfl hrow (ldV_all hcl) ?_
  refine JJ.alloc (cs := [.string (⟨#[]⟩), .int .i64 0, .int .i64 0, .string (⟨#[]⟩), .slice (none) (0) (0)]) zo55 rfl rg rfl rfl fun b1 => ?_
  refine JJ.store (cs' := cs) ty55 0 rg rfl rfl rfl rfl rfl rfl (by simp [hcl]) (by simpa using hre.one) (by simp [hcl]) (stC_all (by simp [hcl])) rfl ?_
  refine JJ.regionEnd ?_
  refine JJ.region rfl fun rg => ?_
  refine JJ.move rg rfl rfl rfl ?_
  refine JJ.move rg rfl rfl rfl ?_
  refine JJ.loadL (v := .agg (cs).toArray) ty55 0 rg rfl rfl rfl rfl (ldV_all hcl) ?_
  refine JJ.callp hg rg rfl rfl rfl rfl (hF _ hle cs d (List.mem_of_getElem? hd) hre) fun cs1 I2 hle2 hre1 => ?_
  replace hall := hall.up (ROc k) (fun _ _ => ROc.mono hle2 )
  replace hle := hle.trans hle2
  have hcl1 := hre1.len
  refine JJ.buildSlice (cs := cs1) eo24 zo55 rg rfl rfl rfl rfl rfl (fillA_one (by simp) hcl1) rfl fun b2 => ?_
  refine JJ.append eo24 io55 rfl 2 rg rfl rfl rfl rfl rfl (SrcOk.ofLit (news := cs1) sl24 0 rfl (by simp [hcl1]) hre1.one) (by omega) fun A3 c4 => ?_
  dsimp only [List.set]
  refine JJ.assign rg rfl rfl rfl ?_
  refine JJ.regionEnd ?_
  refine JJ.inBlock ?_
  refine JJ.region rfl fun rg => ?_
  refine JJ.binI (z := ((j + 1 : Nat) : Int)) rg rfl rfl rfl rfl rfl (wrap_to (by omega) (by omega) (by omega)) ?_
  refine JJ.move rg rfl rfl rfl ?_
  refine JJ.regionEnd ?_
  refine JJ.drop ?_
  refine JJ.drop ?_
  rw [show css.flatten ++ cs1 = (css ++ [cs1]).flatten from by simp]
  refine JJ.keep _ ?_ (ih (j + 1, I2, A3, c4, css ++ [cs1]) ⟨hlt, hle, ?_⟩ (by dsimp only; omega))
  · repeat (first | exact trivial | refine ⟨rfl, ?_⟩)
  ·
   rw [List.take_add_one, hd]
   simp only [Option.toList_some, List.map_append, List.map_cons, List.map_nil]
   exact hall.append (.cons ⟨hcl1, hre1⟩ .nil)
 ·
  have hc3b : (decide ((((j : Nat) : Int) : Int) < (n : Int))) = false := hc3
  replace hc3 := of_decide_eq_false hc3
  refine JJ.exit rfl ?_
  refine JJ.seq ?_
  refine JJ.region rfl fun rg => ?_
  refine JJ.move rg rfl rfl rfl ?_
  refine JJ.assign rg rfl rfl rfl ?_
  refine JJ.regionEnd ?_
  refine JJ.shareOwn fun I2 hle2 hs => ?_
  obtain rfl : j = ds.length := by omega
  refine JJ.ret1 rfl Try.func33 rfl rfl fun h _ => ⟨(A1, c1), ?_, rfl, trivial⟩
  exact RSl.of hs (by simp) (by simp at hall; exact hall.up (ROc k) (fun _ _ => ROc.mono hle2 ))
theorem clonedExpr : ∀ (k : Nat) (I : Hp) (cs : List Value) (x : Ex), RE k I cs x → x.sz ≤ 4294967296 →
  Fn Try.prog 35 #[.agg cs.toArray] I [] (Ret (X := List Value) (fun cs' I' => RE k I' cs' x) (fun cs' => .agg cs'.toArray) fun _ => []) := by
 intro k
 induction k with
 | zero => intro I cs x h; exact h.elim
 | succ k ih =>
 intro I cs x hre hsz
 obtain ⟨A, m, cp, rfl, hx⟩ := hre
 have hz := x.sz_eq
 have hm := hx.1
 have hll := Ex.szl_len x.x
 refine Fn.of (args := [_]) Try.func35 rfl rfl ?_
 refine JJ.seq ?_
 refine JJ.region rfl fun rg => ?_
 refine JJ.box (cs := [.int .i64 (x.op), .int .i64 (x.n), .string (x.s), .slice (A) (m) (cp)]) rg rfl rfl rfl rfl fun b1 => ?_
 refine JJ.alloc (cs := [.int .i64 0, .int .i64 0, .string (⟨#[]⟩), .slice (none) (0) (0)]) zo53 rfl rg rfl rfl fun b2 => ?_
 refine JJ.regionEnd ?_
 refine JJ.seq ?_
 refine JJ.region rfl fun rg => ?_
 refine JJ.fieldAddr (a' := ⟨b1, 3, none⟩) fo53_3 rg rfl rfl rfl rfl ?_
 refine JJ.loadL (v := .slice (A) (m) (cp)) ty33 1 rg rfl rfl rfl rfl rfl ?_
 refine JJ.callp bo38 rg rfl rfl rfl rfl (each_Expr k I A m cp x.x id 35 [] [] (by omega) hx bo35 fun I1 _ cs d hd hr => ih I1 cs d hr (by have := Ex.szl_mem hd; omega)) fun p I3 hle4 hp => ?_
 rw [List.map_id] at hp
 refine JJ.fieldAddr (a' := ⟨b1, 3, none⟩) fo53_3 rg rfl rfl rfl rfl ?_
 refine JJ.store (cs' := [.int .i64 (x.op), .int .i64 (x.n), .string (x.s), .slice (p.1) (x.x.length) (p.2)]) ty33 1 rg rfl rfl rfl rfl rfl rfl rfl rfl rfl rfl rfl ?_
 refine JJ.regionEnd ?_
 refine JJ.seq ?_
 refine JJ.region rfl fun rg => ?_
 refine JJ.loadL (v := .agg #[.int .i64 (x.op), .int .i64 (x.n), .string (x.s), .slice (p.1) (x.x.length) (p.2)]) ty53 1 rg rfl rfl rfl rfl rfl ?_
 refine JJ.store (cs' := [.int .i64 (x.op), .int .i64 (x.n), .string (x.s), .slice (p.1) (x.x.length) (p.2)]) ty53 0 rg rfl rfl rfl rfl rfl rfl rfl rfl rfl rfl rfl ?_
 refine JJ.regionEnd ?_
 refine JJ.retc (v := .agg #[.int .i64 (x.op), .int .i64 (x.n), .string (x.s), .slice (p.1) (x.x.length) (p.2)]) ty53 0 rfl Try.func35 rfl rfl rfl rfl (fun h h_ => ⟨[_, _, _, _], ⟨p.1, _, p.2, rfl, hp⟩, rfl, trivial⟩)
theorem cloned : ∀ (k : Nat) (I : Hp) (cs : List Value) (x : St), RS k I cs x → x.sz ≤ 4294967296 →
  Fn Try.prog 19 #[.agg cs.toArray] I [] (Ret (X := List Value) (fun cs' I' => RS k I' cs' x) (fun cs' => .agg cs'.toArray) fun _ => []) := by
 intro k
 induction k with
 | zero => intro I cs x h; exact h.elim
 | succ k ih =>
 intro I cs x hre hsz
 obtain ⟨A, m, cp, A1, m1, cp1, A2, m2, cp2, rfl, hx, hx1, hx2⟩ := hre
 have hz := x.sz_eq
 have hm := hx.1
 have hm1 := hx1.1
 have hm2 := hx2.1
 have hll := Ex.szl_len x.e
 have hll1 := St.szl_len x.body
 have hll2 := St.szl_len x.els
 change REs k I A m cp x.e at hx
 change RSs k I A1 m1 cp1 x.body at hx1
 change RSs k I A2 m2 cp2 x.els at hx2
 refine Fn.of (args := [_]) Try.func19 rfl rfl ?_
 refine JJ.seq ?_
 refine JJ.region rfl fun rg => ?_
 refine JJ.box (cs := [.int .i64 (x.op), .string (x.s), .int .i64 (x.n), .slice (A) (m) (cp), .slice (A1) (m1) (cp1), .slice (A2) (m2) (cp2), .bool (x.commit)]) rg rfl rfl rfl rfl fun b1 => ?_
 refine JJ.alloc (cs := [.int .i64 0, .string (⟨#[]⟩), .int .i64 0, .slice (none) (0) (0), .slice (none) (0) (0), .slice (none) (0) (0), .bool false]) zo35 rfl rg rfl rfl fun b2 => ?_
 refine JJ.regionEnd ?_
 refine JJ.seq ?_
 refine JJ.region rfl fun rg => ?_
 refine JJ.fieldAddr (a' := ⟨b1, 3, none⟩) fo35_3 rg rfl rfl rfl rfl ?_
 refine JJ.loadL (v := .slice (A) (m) (cp)) ty33 1 rg rfl rfl rfl rfl rfl ?_
 refine JJ.callp bo38 rg rfl rfl rfl rfl (each_Expr k _ A m cp x.e id 35 [] [] (by omega) hx bo35 fun I1 _ cs d hd hr => clonedExpr k I1 cs d hr (by have := Ex.szl_mem hd; omega)) fun p I3 hle4 hp => ?_
 replace hx := hx.mono hle4
 replace hx1 := hx1.mono hle4
 replace hx2 := hx2.mono hle4
 rw [List.map_id] at hp
 refine JJ.fieldAddr (a' := ⟨b1, 3, none⟩) fo35_3 rg rfl rfl rfl rfl ?_
 refine JJ.store (cs' := [.int .i64 (x.op), .string (x.s), .int .i64 (x.n), .slice (p.1) (x.e.length) (p.2), .slice (A1) (m1) (cp1), .slice (A2) (m2) (cp2), .bool (x.commit)]) ty33 1 rg rfl rfl rfl rfl rfl rfl rfl rfl rfl rfl rfl ?_
 refine JJ.regionEnd ?_
 refine JJ.seq ?_
 refine JJ.region rfl fun rg => ?_
 refine JJ.fieldAddr (a' := ⟨b1, 4, none⟩) fo35_4 rg rfl rfl rfl rfl ?_
 refine JJ.loadL (v := .slice (A1) (m1) (cp1)) ty23 1 rg rfl rfl rfl rfl rfl ?_
 refine JJ.callp bo32 rg rfl rfl rfl rfl (each_Stmt k _ A1 m1 cp1 x.body id 19 [] [] (by omega) hx1 bo19 fun I1 _ cs d hd hr => ih I1 cs d hr (by have := St.szl_mem hd; omega)) fun p1 I5 hle6 hp1 => ?_
 replace hx := hx.mono hle6
 replace hx1 := hx1.mono hle6
 replace hx2 := hx2.mono hle6
 replace hp := hp.mono hle6
 rw [List.map_id] at hp1
 refine JJ.fieldAddr (a' := ⟨b1, 4, none⟩) fo35_4 rg rfl rfl rfl rfl ?_
 refine JJ.store (cs' := [.int .i64 (x.op), .string (x.s), .int .i64 (x.n), .slice (p.1) (x.e.length) (p.2), .slice (p1.1) (x.body.length) (p1.2), .slice (A2) (m2) (cp2), .bool (x.commit)]) ty23 1 rg rfl rfl rfl rfl rfl rfl rfl rfl rfl rfl rfl ?_
 refine JJ.regionEnd ?_
 refine JJ.seq ?_
 refine JJ.region rfl fun rg => ?_
 refine JJ.fieldAddr (a' := ⟨b1, 5, none⟩) fo35_5 rg rfl rfl rfl rfl ?_
 refine JJ.loadL (v := .slice (A2) (m2) (cp2)) ty23 1 rg rfl rfl rfl rfl rfl ?_
 refine JJ.callp bo32 rg rfl rfl rfl rfl (each_Stmt k _ A2 m2 cp2 x.els id 19 [] [] (by omega) hx2 bo19 fun I1 _ cs d hd hr => ih I1 cs d hr (by have := St.szl_mem hd; omega)) fun p2 I7 hle8 hp2 => ?_
 replace hx := hx.mono hle8
 replace hx1 := hx1.mono hle8
 replace hx2 := hx2.mono hle8
 replace hp := hp.mono hle8
 replace hp1 := hp1.mono hle8
 rw [List.map_id] at hp2
 refine JJ.fieldAddr (a' := ⟨b1, 5, none⟩) fo35_5 rg rfl rfl rfl rfl ?_
 refine JJ.store (cs' := [.int .i64 (x.op), .string (x.s), .int .i64 (x.n), .slice (p.1) (x.e.length) (p.2), .slice (p1.1) (x.body.length) (p1.2), .slice (p2.1) (x.els.length) (p2.2), .bool (x.commit)]) ty23 1 rg rfl rfl rfl rfl rfl rfl rfl rfl rfl rfl rfl ?_
 refine JJ.regionEnd ?_
 refine JJ.seq ?_
 refine JJ.region rfl fun rg => ?_
 refine JJ.loadL (v := .agg #[.int .i64 (x.op), .string (x.s), .int .i64 (x.n), .slice (p.1) (x.e.length) (p.2), .slice (p1.1) (x.body.length) (p1.2), .slice (p2.1) (x.els.length) (p2.2), .bool (x.commit)]) ty35 1 rg rfl rfl rfl rfl rfl ?_
 refine JJ.store (cs' := [.int .i64 (x.op), .string (x.s), .int .i64 (x.n), .slice (p.1) (x.e.length) (p.2), .slice (p1.1) (x.body.length) (p1.2), .slice (p2.1) (x.els.length) (p2.2), .bool (x.commit)]) ty35 0 rg rfl rfl rfl rfl rfl rfl rfl rfl rfl rfl rfl ?_
 refine JJ.regionEnd ?_
 refine JJ.retc (v := .agg #[.int .i64 (x.op), .string (x.s), .int .i64 (x.n), .slice (p.1) (x.e.length) (p.2), .slice (p1.1) (x.body.length) (p1.2), .slice (p2.1) (x.els.length) (p2.2), .bool (x.commit)]) ty35 0 rfl Try.func19 rfl rfl rfl rfl (fun h h_ => ⟨[_, _, _, _, _, _, _], ⟨p.1, _, p.2, p1.1, _, p1.2, p2.1, _, p2.2, rfl, hp, hp1, hp2⟩, rfl, trivial⟩)
theorem clone1 (k : Nat) (I : Hp) (cs : List Value) (x : Pc) (hre : RPc k I cs x) (hsz : x.sz ≤ 4294967296) :
  Fn Try.prog 31 #[.agg cs.toArray] I [] (Ret (X := List Value) (fun cs' I' => RPc k I' cs' x) (fun cs' => .agg cs'.toArray) fun _ => []) := by
 obtain ⟨A, m, cp, rfl, hx⟩ := hre
 have hz : x.sz = St.szl x.body + 1 := rfl
 have hm := hx.1
 have hll := St.szl_len x.body
 refine Fn.of (args := [_]) Try.func31 rfl rfl ?_
 refine JJ.seq ?_
 refine JJ.region rfl fun rg => ?_
 refine JJ.box (cs := [.string (x.name), .slice (A) (m) (cp)]) rg rfl rfl rfl rfl fun b1 => ?_
 refine JJ.alloc (cs := [.string (⟨#[]⟩), .slice (none) (0) (0)]) zo44 rfl rg rfl rfl fun b2 => ?_
 refine JJ.regionEnd ?_
 refine JJ.seq ?_
 refine JJ.draw (m := 5) [(1, .pointer (some ⟨b1, 0, none⟩)), (2, .pointer (some ⟨b2, 0, none⟩))]
  (fun i => match i with | 0 => fun _ v => v = .pointer (some ⟨b1, 0, none⟩) | 1 => fun _ v => v = .string (x.name) | 2 => fun _ v => v = .pointer (some ⟨b1, 1, none⟩) | 3 => fun _ v => v = .slice (A) (m) (cp) | 4 => fun I v => ∃ p : Option Addr × Nat, v = .slice p.1 x.body.length p.2 ∧ RSs k I p.1 x.body.length p.2 (x.body.map id) | _ => fun _ _ => False) mx rfl rfl ?_ (by repeat (first | exact trivial | refine ⟨rfl, ?_⟩)) (fun rg => ?_) (fun rg => ?_)
 ·
  rintro (_ | _ | _ | _ | _ | i) I1_ I2_ v l h
  · exact h
  · exact h
  · exact h
  · exact h
  · obtain ⟨p, h1, h0⟩ := h; exact ⟨p, h1, RSs.mono h0 l⟩
  · exact h
 ·
  refine ⟨?_, ?_, ?_, ?_, ?_, trivial⟩
  ·
   intro is E2 I2_ hle_ hb hd kk_
   obtain ⟨hb1, hb2, -⟩ := hb
   replace hx := hx.mono hle_
   refine JJ.fieldAddr (a' := ⟨b1, 0, none⟩) fo44_0 rg rfl rfl hb1 rfl (kk_ _ _ (.refl _) rfl)
  ·
   intro is E2 I2_ hle_ hb hd kk_
   obtain ⟨hb1, hb2, -⟩ := hb
   obtain ⟨d0, v0, e0, g0, s0⟩ := hd 0 (by decide)
   cases e0
   subst s0
   replace hx := hx.mono hle_
   refine JJ.loadL (v := .string (x.name)) ty9 1 rg rfl rfl g0 rfl rfl (kk_ _ _ (.refl _) rfl)
  ·
   intro is E2 I2_ hle_ hb hd kk_
   obtain ⟨hb1, hb2, -⟩ := hb
   replace hx := hx.mono hle_
   refine JJ.fieldAddr (a' := ⟨b1, 1, none⟩) fo44_1 rg rfl rfl hb1 rfl (kk_ _ _ (.refl _) rfl)
  ·
   intro is E2 I2_ hle_ hb hd kk_
   obtain ⟨hb1, hb2, -⟩ := hb
   obtain ⟨d2, v2, e2, g2, s2⟩ := hd 2 (by decide)
   cases e2
   subst s2
   replace hx := hx.mono hle_
   refine JJ.loadL (v := .slice (A) (m) (cp)) ty23 1 rg rfl rfl g2 rfl rfl (kk_ _ _ (.refl _) rfl)
  ·
   intro is E2 I2_ hle_ hb hd kk_
   obtain ⟨hb1, hb2, -⟩ := hb
   obtain ⟨d3, v3, e3, g3, s3⟩ := hd 3 (by decide)
   cases e3
   subst s3
   replace hx := hx.mono hle_
   refine JJ.callp bo32 rg rfl rfl rfl (evL_cons g3 (evL_cons rfl rfl)) (each_Stmt k _ A m cp x.body id 19 [] [] (by omega) hx bo19 fun I1 _ cs d hd hr => cloned k I1 cs d hr (by have := St.szl_mem hd; omega)) fun p I3 hle4 hp => (kk_ _ _ hle4 ⟨p, rfl, hp⟩)
 intro vs I6 hle5 hs_
 obtain ⟨hv0, hv1, hv2, hv3, hv4, -⟩ := hs_
 replace hx := hx.mono hle5
 obtain ⟨p, hv4, hp⟩ := hv4
 refine JJ.keep [(1, .pointer (some ⟨b1, 0, none⟩)), (2, .pointer (some ⟨b2, 0, none⟩)), (3, .pointer (some ⟨b1, 0, none⟩)), (4, .string (x.name)), (5, .pointer (some ⟨b1, 1, none⟩)), (6, .slice (A) (m) (cp)), (7, .slice (p.1) (x.body.length) (p.2))] ⟨rfl, rfl, congrArg some hv0, congrArg some hv1, congrArg some hv2, congrArg some hv3, congrArg some hv4, trivial⟩ ?_
 refine JJ.build (cells := #[.string (x.name), .slice (p.1) (x.body.length) (p.2)]) zo44 so44 rg rfl rfl rfl rfl ?_
 refine JJ.store (cs' := [.string (x.name), .slice (p.1) (x.body.length) (p.2)]) ty44 0 rg rfl rfl rfl rfl rfl rfl rfl rfl rfl rfl rfl ?_
 refine JJ.regionEnd ?_
 rw [List.map_id] at hp
 refine JJ.retc (v := .agg #[.string (x.name), .slice (p.1) (x.body.length) (p.2)]) ty44 0 rfl Try.func31 rfl rfl rfl rfl (fun h h_ => ⟨[_, _], ⟨p.1, _, p.2, rfl, hp⟩, rfl, trivial⟩)
theorem clone2 (k : Nat) (I : Hp) (cs : List Value) (x : Oc) (hre : ROc k I cs x) (hsz : x.sz ≤ 4294967296) :
  Fn Try.prog 34 #[.agg cs.toArray] I [] (Ret (X := List Value) (fun cs' I' => ROc k I' cs' x) (fun cs' => .agg cs'.toArray) fun _ => []) := by
 obtain ⟨A, m, cp, rfl, hx⟩ := hre
 have hz : x.sz = x.e.sz + 1 := rfl
 refine Fn.of (args := [_]) Try.func34 rfl rfl ?_
 refine JJ.seq ?_
 refine JJ.region rfl fun rg => ?_
 refine JJ.box (cs := [.string (x.name), .int .i64 (x.e.op), .int .i64 (x.e.n), .string (x.e.s), .slice (A) (m) (cp)]) rg rfl rfl rfl rfl fun b1 => ?_
 refine JJ.alloc (cs := [.string (⟨#[]⟩), .int .i64 0, .int .i64 0, .string (⟨#[]⟩), .slice (none) (0) (0)]) zo55 rfl rg rfl rfl fun b2 => ?_
 refine JJ.regionEnd ?_
 refine JJ.seq ?_
 refine JJ.draw (m := 5) [(1, .pointer (some ⟨b1, 0, none⟩)), (2, .pointer (some ⟨b2, 0, none⟩))]
  (fun i => match i with | 0 => fun _ v => v = .pointer (some ⟨b1, 0, none⟩) | 1 => fun _ v => v = .string (x.name) | 2 => fun _ v => v = .pointer (some ⟨b1, 1, none⟩) | 3 => fun _ v => v = .agg #[.int .i64 (x.e.op), .int .i64 (x.e.n), .string (x.e.s), .slice (A) (m) (cp)] | 4 => fun I v => ∃ p : List Value, v = .agg p.toArray ∧ RE k I p x.e | _ => fun _ _ => False) mx rfl rfl ?_ (by repeat (first | exact trivial | refine ⟨rfl, ?_⟩)) (fun rg => ?_) (fun rg => ?_)
 ·
  rintro (_ | _ | _ | _ | _ | i) I1_ I2_ v l h
  · exact h
  · exact h
  · exact h
  · exact h
  · obtain ⟨p, h1, h0⟩ := h; exact ⟨p, h1, RE.mono l h0⟩
  · exact h
 ·
  refine ⟨?_, ?_, ?_, ?_, ?_, trivial⟩
  ·
   intro is E2 I2_ hle_ hb hd kk_
   obtain ⟨hb1, hb2, -⟩ := hb
   refine JJ.fieldAddr (a' := ⟨b1, 0, none⟩) fo55_0 rg rfl rfl hb1 rfl (kk_ _ _ (.refl _) rfl)
  ·
   intro is E2 I2_ hle_ hb hd kk_
   obtain ⟨hb1, hb2, -⟩ := hb
   obtain ⟨d0, v0, e0, g0, s0⟩ := hd 0 (by decide)
   cases e0
   subst s0
   refine JJ.loadL (v := .string (x.name)) ty9 1 rg rfl rfl g0 rfl rfl (kk_ _ _ (.refl _) rfl)
  ·
   intro is E2 I2_ hle_ hb hd kk_
   obtain ⟨hb1, hb2, -⟩ := hb
   refine JJ.fieldAddr (a' := ⟨b1, 1, none⟩) fo55_1 rg rfl rfl hb1 rfl (kk_ _ _ (.refl _) rfl)
  ·
   intro is E2 I2_ hle_ hb hd kk_
   obtain ⟨hb1, hb2, -⟩ := hb
   obtain ⟨d2, v2, e2, g2, s2⟩ := hd 2 (by decide)
   cases e2
   subst s2
   refine JJ.loadL (v := .agg #[.int .i64 (x.e.op), .int .i64 (x.e.n), .string (x.e.s), .slice (A) (m) (cp)]) ty53 1 rg rfl rfl g2 rfl rfl (kk_ _ _ (.refl _) rfl)
  ·
   intro is E2 I2_ hle_ hb hd kk_
   obtain ⟨hb1, hb2, -⟩ := hb
   obtain ⟨d3, v3, e3, g3, s3⟩ := hd 3 (by decide)
   cases e3
   subst s3
   replace hx := RE.mono hle_ hx
   refine JJ.callp bo35 rg rfl rfl rfl (evL_cons g3 rfl) (clonedExpr k _ _ x.e hx (by omega)) fun p I3 hle4 hp => (kk_ _ _ hle4 ⟨p, rfl, hp⟩)
 intro vs I6 hle5 hs_
 obtain ⟨hv0, hv1, hv2, hv3, hv4, -⟩ := hs_
 obtain ⟨p, hv4, hp⟩ := hv4
 refine JJ.keep [(1, .pointer (some ⟨b1, 0, none⟩)), (2, .pointer (some ⟨b2, 0, none⟩)), (3, .pointer (some ⟨b1, 0, none⟩)), (4, .string (x.name)), (5, .pointer (some ⟨b1, 1, none⟩)), (6, .agg #[.int .i64 (x.e.op), .int .i64 (x.e.n), .string (x.e.s), .slice (A) (m) (cp)]), (7, .agg (p).toArray)] ⟨rfl, rfl, congrArg some hv0, congrArg some hv1, congrArg some hv2, congrArg some hv3, congrArg some hv4, trivial⟩ ?_
 obtain ⟨A1, m1, cp1, rfl, hp1⟩ := RE.open hp
 refine JJ.build (cells := #[.string (x.name), .int .i64 (x.e.op), .int .i64 (x.e.n), .string (x.e.s), .slice (A1) (m1) (cp1)]) zo55 so55 rg rfl rfl rfl rfl ?_
 refine JJ.store (cs' := [.string (x.name), .int .i64 (x.e.op), .int .i64 (x.e.n), .string (x.e.s), .slice (A1) (m1) (cp1)]) ty55 0 rg rfl rfl rfl rfl rfl rfl rfl rfl rfl rfl rfl ?_
 refine JJ.regionEnd ?_
 refine JJ.retc (v := .agg #[.string (x.name), .int .i64 (x.e.op), .int .i64 (x.e.n), .string (x.e.s), .slice (A1) (m1) (cp1)]) ty55 0 rfl Try.func34 rfl rfl rfl rfl (fun h h_ => ⟨[_, _, _, _, _], ⟨A1, _, cp1, rfl, hp⟩, rfl, trivial⟩)
theorem Clone (k : Nat) (I : Hp) (cs : List Value) (x : Pg) (hre : RPg k I cs x) (hsz : x.sz ≤ 4294967296) :
  Fn Try.prog 14 #[.agg cs.toArray] I [] (Ret (X := List Value) (fun cs' I' => RPg k I' cs' x) (fun cs' => .agg cs'.toArray) fun _ => []) := by
 obtain ⟨A, m, cp, A1, m1, cp1, A2, m2, cp2, A3, m3, cp3, rfl, hx, hx1, hx2, hx3⟩ := hre
 have hz : x.sz = Pc.szl x.procs + St.szl x.main + St.szl x.recover + Oc.szl x.oracles := rfl
 have hm := hx.1
 have hm1 := hx1.1
 have hm2 := hx2.1
 have hm3 := hx3.1
 have hll := Pc.szl_len x.procs
 have hll1 := St.szl_len x.main
 have hll2 := St.szl_len x.recover
 have hll3 := Oc.szl_len x.oracles
 change RPcs k I A m cp x.procs at hx
 change ROcs k I A3 m3 cp3 x.oracles at hx3
 refine Fn.of (args := [_]) Try.func14 rfl rfl ?_
 refine JJ.seq ?_
 refine JJ.region rfl fun rg => ?_
 refine JJ.box (cs := [.slice (A) (m) (cp), .slice (A1) (m1) (cp1), .slice (A2) (m2) (cp2), .slice (A3) (m3) (cp3)]) rg rfl rfl rfl rfl fun b1 => ?_
 refine JJ.alloc (cs := [.slice (none) (0) (0), .slice (none) (0) (0), .slice (none) (0) (0), .slice (none) (0) (0)]) zo26 rfl rg rfl rfl fun b2 => ?_
 refine JJ.regionEnd ?_
 refine JJ.seq ?_
 refine JJ.draw (m := 12) [(1, .pointer (some ⟨b1, 0, none⟩)), (2, .pointer (some ⟨b2, 0, none⟩))]
  (fun i => match i with | 0 => fun _ v => v = .pointer (some ⟨b1, 0, none⟩) | 1 => fun _ v => v = .slice (A) (m) (cp) | 2 => fun I v => ∃ p : Option Addr × Nat, v = .slice p.1 x.procs.length p.2 ∧ RPcs k I p.1 x.procs.length p.2 (x.procs.map id) | 3 => fun _ v => v = .pointer (some ⟨b1, 1, none⟩) | 4 => fun _ v => v = .slice (A1) (m1) (cp1) | 5 => fun I v => ∃ p : Option Addr × Nat, v = .slice p.1 x.main.length p.2 ∧ RSs k I p.1 x.main.length p.2 (x.main.map id) | 6 => fun _ v => v = .pointer (some ⟨b1, 2, none⟩) | 7 => fun _ v => v = .slice (A2) (m2) (cp2) | 8 => fun I v => ∃ p : Option Addr × Nat, v = .slice p.1 x.recover.length p.2 ∧ RSs k I p.1 x.recover.length p.2 (x.recover.map id) | 9 => fun _ v => v = .pointer (some ⟨b1, 3, none⟩) | 10 => fun _ v => v = .slice (A3) (m3) (cp3) | 11 => fun I v => ∃ p : Option Addr × Nat, v = .slice p.1 x.oracles.length p.2 ∧ ROcs k I p.1 x.oracles.length p.2 (x.oracles.map id) | _ => fun _ _ => False) mx rfl rfl ?_ (by repeat (first | exact trivial | refine ⟨rfl, ?_⟩)) (fun rg => ?_) (fun rg => ?_)
 ·
  rintro (_ | _ | _ | _ | _ | _ | _ | _ | _ | _ | _ | _ | i) I1_ I2_ v l h
  · exact h
  · exact h
  · obtain ⟨p, h1, h0⟩ := h; exact ⟨p, h1, RPcs.mono h0 l⟩
  · exact h
  · exact h
  · obtain ⟨p, h1, h0⟩ := h; exact ⟨p, h1, RSs.mono h0 l⟩
  · exact h
  · exact h
  · obtain ⟨p, h1, h0⟩ := h; exact ⟨p, h1, RSs.mono h0 l⟩
  · exact h
  · exact h
  · obtain ⟨p, h1, h0⟩ := h; exact ⟨p, h1, ROcs.mono h0 l⟩
  · exact h
 ·
  refine ⟨?_, ?_, ?_, ?_, ?_, ?_, ?_, ?_, ?_, ?_, ?_, ?_, trivial⟩
  ·
   intro is E2 I2_ hle_ hb hd kk_
   obtain ⟨hb1, hb2, -⟩ := hb
   replace hx := hx.mono hle_
   replace hx1 := hx1.mono hle_
   replace hx2 := hx2.mono hle_
   replace hx3 := hx3.mono hle_
   refine JJ.fieldAddr (a' := ⟨b1, 0, none⟩) fo26_0 rg rfl rfl hb1 rfl (kk_ _ _ (.refl _) rfl)
  ·
   intro is E2 I2_ hle_ hb hd kk_
   obtain ⟨hb1, hb2, -⟩ := hb
   obtain ⟨d0, v0, e0, g0, s0⟩ := hd 0 (by decide)
   cases e0
   subst s0
   replace hx := hx.mono hle_
   replace hx1 := hx1.mono hle_
   replace hx2 := hx2.mono hle_
   replace hx3 := hx3.mono hle_
   refine JJ.loadL (v := .slice (A) (m) (cp)) ty22 1 rg rfl rfl g0 rfl rfl (kk_ _ _ (.refl _) rfl)
  ·
   intro is E2 I2_ hle_ hb hd kk_
   obtain ⟨hb1, hb2, -⟩ := hb
   obtain ⟨d1, v1, e1, g1, s1⟩ := hd 1 (by decide)
   cases e1
   subst s1
   replace hx := hx.mono hle_
   replace hx1 := hx1.mono hle_
   replace hx2 := hx2.mono hle_
   replace hx3 := hx3.mono hle_
   refine JJ.callp bo30 rg rfl rfl rfl (evL_cons g1 (evL_cons rfl rfl)) (each_Proc k _ A m cp x.procs id 31 [] [] (by omega) hx bo31 fun I1 _ cs d hd hr => clone1 k I1 cs d hr (by have := Pc.szl_mem hd; omega)) fun p I3 hle4 hp => (kk_ _ _ hle4 ⟨p, rfl, hp⟩)
  ·
   intro is E2 I2_ hle_ hb hd kk_
   obtain ⟨hb1, hb2, -⟩ := hb
   replace hx := hx.mono hle_
   replace hx1 := hx1.mono hle_
   replace hx2 := hx2.mono hle_
   replace hx3 := hx3.mono hle_
   refine JJ.fieldAddr (a' := ⟨b1, 1, none⟩) fo26_1 rg rfl rfl hb1 rfl (kk_ _ _ (.refl _) rfl)
  ·
   intro is E2 I2_ hle_ hb hd kk_
   obtain ⟨hb1, hb2, -⟩ := hb
   obtain ⟨d3, v3, e3, g3, s3⟩ := hd 3 (by decide)
   cases e3
   subst s3
   replace hx := hx.mono hle_
   replace hx1 := hx1.mono hle_
   replace hx2 := hx2.mono hle_
   replace hx3 := hx3.mono hle_
   refine JJ.loadL (v := .slice (A1) (m1) (cp1)) ty23 1 rg rfl rfl g3 rfl rfl (kk_ _ _ (.refl _) rfl)
  ·
   intro is E2 I2_ hle_ hb hd kk_
   obtain ⟨hb1, hb2, -⟩ := hb
   obtain ⟨d2, v2, e2, g2, s2⟩ := hd 2 (by decide)
   cases e2
   obtain ⟨p, rfl, hp⟩ := s2
   obtain ⟨d4, v4, e4, g4, s4⟩ := hd 4 (by decide)
   cases e4
   subst s4
   replace hx := hx.mono hle_
   replace hx1 := hx1.mono hle_
   replace hx2 := hx2.mono hle_
   replace hx3 := hx3.mono hle_
   refine JJ.callp bo32 rg rfl rfl rfl (evL_cons g4 (evL_cons rfl rfl)) (each_Stmt k _ A1 m1 cp1 x.main id 19 [] [] (by omega) hx1 bo19 fun I1 _ cs d hd hr => cloned k I1 cs d hr (by have := St.szl_mem hd; omega)) fun p1 I5 hle6 hp1 => (kk_ _ _ hle6 ⟨p1, rfl, hp1⟩)
  ·
   intro is E2 I2_ hle_ hb hd kk_
   obtain ⟨hb1, hb2, -⟩ := hb
   replace hx := hx.mono hle_
   replace hx1 := hx1.mono hle_
   replace hx2 := hx2.mono hle_
   replace hx3 := hx3.mono hle_
   refine JJ.fieldAddr (a' := ⟨b1, 2, none⟩) fo26_2 rg rfl rfl hb1 rfl (kk_ _ _ (.refl _) rfl)
  ·
   intro is E2 I2_ hle_ hb hd kk_
   obtain ⟨hb1, hb2, -⟩ := hb
   obtain ⟨d6, v6, e6, g6, s6⟩ := hd 6 (by decide)
   cases e6
   subst s6
   replace hx := hx.mono hle_
   replace hx1 := hx1.mono hle_
   replace hx2 := hx2.mono hle_
   replace hx3 := hx3.mono hle_
   refine JJ.loadL (v := .slice (A2) (m2) (cp2)) ty23 1 rg rfl rfl g6 rfl rfl (kk_ _ _ (.refl _) rfl)
  ·
   intro is E2 I2_ hle_ hb hd kk_
   obtain ⟨hb1, hb2, -⟩ := hb
   obtain ⟨d5, v5, e5, g5, s5⟩ := hd 5 (by decide)
   cases e5
   obtain ⟨p1, rfl, hp1⟩ := s5
   obtain ⟨d7, v7, e7, g7, s7⟩ := hd 7 (by decide)
   cases e7
   subst s7
   replace hx := hx.mono hle_
   replace hx1 := hx1.mono hle_
   replace hx2 := hx2.mono hle_
   replace hx3 := hx3.mono hle_
   refine JJ.callp bo32 rg rfl rfl rfl (evL_cons g7 (evL_cons rfl rfl)) (each_Stmt k _ A2 m2 cp2 x.recover id 19 [] [] (by omega) hx2 bo19 fun I1 _ cs d hd hr => cloned k I1 cs d hr (by have := St.szl_mem hd; omega)) fun p2 I7 hle8 hp2 => (kk_ _ _ hle8 ⟨p2, rfl, hp2⟩)
  ·
   intro is E2 I2_ hle_ hb hd kk_
   obtain ⟨hb1, hb2, -⟩ := hb
   replace hx := hx.mono hle_
   replace hx1 := hx1.mono hle_
   replace hx2 := hx2.mono hle_
   replace hx3 := hx3.mono hle_
   refine JJ.fieldAddr (a' := ⟨b1, 3, none⟩) fo26_3 rg rfl rfl hb1 rfl (kk_ _ _ (.refl _) rfl)
  ·
   intro is E2 I2_ hle_ hb hd kk_
   obtain ⟨hb1, hb2, -⟩ := hb
   obtain ⟨d9, v9, e9, g9, s9⟩ := hd 9 (by decide)
   cases e9
   subst s9
   replace hx := hx.mono hle_
   replace hx1 := hx1.mono hle_
   replace hx2 := hx2.mono hle_
   replace hx3 := hx3.mono hle_
   refine JJ.loadL (v := .slice (A3) (m3) (cp3)) ty24 1 rg rfl rfl g9 rfl rfl (kk_ _ _ (.refl _) rfl)
  ·
   intro is E2 I2_ hle_ hb hd kk_
   obtain ⟨hb1, hb2, -⟩ := hb
   obtain ⟨d8, v8, e8, g8, s8⟩ := hd 8 (by decide)
   cases e8
   obtain ⟨p2, rfl, hp2⟩ := s8
   obtain ⟨d10, v10, e10, g10, s10⟩ := hd 10 (by decide)
   cases e10
   subst s10
   replace hx := hx.mono hle_
   replace hx1 := hx1.mono hle_
   replace hx2 := hx2.mono hle_
   replace hx3 := hx3.mono hle_
   refine JJ.callp bo33 rg rfl rfl rfl (evL_cons g10 (evL_cons rfl rfl)) (each_Oracle k _ A3 m3 cp3 x.oracles id 34 [] [] (by omega) hx3 bo34 fun I1 _ cs d hd hr => clone2 k I1 cs d hr (by have := Oc.szl_mem hd; omega)) fun p3 I9 hle10 hp3 => (kk_ _ _ hle10 ⟨p3, rfl, hp3⟩)
 intro vs I12 hle11 hs_
 obtain ⟨hv0, hv1, hv2, hv3, hv4, hv5, hv6, hv7, hv8, hv9, hv10, hv11, -⟩ := hs_
 replace hx := hx.mono hle11
 replace hx1 := hx1.mono hle11
 replace hx2 := hx2.mono hle11
 replace hx3 := hx3.mono hle11
 obtain ⟨p, hv2, hp⟩ := hv2
 obtain ⟨p1, hv5, hp1⟩ := hv5
 obtain ⟨p2, hv8, hp2⟩ := hv8
 obtain ⟨p3, hv11, hp3⟩ := hv11
 refine JJ.keep [(1, .pointer (some ⟨b1, 0, none⟩)), (2, .pointer (some ⟨b2, 0, none⟩)), (3, .pointer (some ⟨b1, 0, none⟩)), (4, .slice (A) (m) (cp)), (5, .slice (p.1) (x.procs.length) (p.2)), (6, .pointer (some ⟨b1, 1, none⟩)), (7, .slice (A1) (m1) (cp1)), (8, .slice (p1.1) (x.main.length) (p1.2)), (9, .pointer (some ⟨b1, 2, none⟩)), (10, .slice (A2) (m2) (cp2)), (11, .slice (p2.1) (x.recover.length) (p2.2)), (12, .pointer (some ⟨b1, 3, none⟩)), (13, .slice (A3) (m3) (cp3)), (14, .slice (p3.1) (x.oracles.length) (p3.2))] ⟨rfl, rfl, congrArg some hv0, congrArg some hv1, congrArg some hv2, congrArg some hv3, congrArg some hv4, congrArg some hv5, congrArg some hv6, congrArg some hv7, congrArg some hv8, congrArg some hv9, congrArg some hv10, congrArg some hv11, trivial⟩ ?_
 refine JJ.build (cells := #[.slice (p.1) (x.procs.length) (p.2), .slice (p1.1) (x.main.length) (p1.2), .slice (p2.1) (x.recover.length) (p2.2), .slice (p3.1) (x.oracles.length) (p3.2)]) zo26 so26 rg rfl rfl rfl rfl ?_
 refine JJ.store (cs' := [.slice (p.1) (x.procs.length) (p.2), .slice (p1.1) (x.main.length) (p1.2), .slice (p2.1) (x.recover.length) (p2.2), .slice (p3.1) (x.oracles.length) (p3.2)]) ty26 0 rg rfl rfl rfl rfl rfl rfl rfl rfl rfl rfl rfl ?_
 refine JJ.regionEnd ?_
 rw [List.map_id] at hp hp1 hp2 hp3
 refine JJ.retc (v := .agg #[.slice (p.1) (x.procs.length) (p.2), .slice (p1.1) (x.main.length) (p1.2), .slice (p2.1) (x.recover.length) (p2.2), .slice (p3.1) (x.oracles.length) (p3.2)]) ty26 0 rfl Try.func14 rfl rfl rfl rfl (fun h h_ => ⟨[_, _, _, _], ⟨p.1, _, p.2, p1.1, _, p1.2, p2.1, _, p2.2, p3.1, _, p3.2, rfl, hp, hp1, hp2, hp3⟩, rfl, trivial⟩)
end Wa
end Go.Proofs.Ytlcdafeoionnhaa
