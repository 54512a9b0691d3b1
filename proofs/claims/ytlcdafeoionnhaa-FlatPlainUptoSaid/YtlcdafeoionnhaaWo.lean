/- Walks of functions, printed by a program of this session (wip/tool/eng.py). -/
import Derived.Test.YtlcdafeoionnhaaProg
import Derived.Test.YtlcdafeoionnhaaTree
namespace Go.Proofs.Ytlcdafeoionnhaa
open Go
set_option linter.unusedVariables false
set_option linter.unusedSimpArgs false
namespace Wo
theorem bo19 : bodyOk Try.prog 19 = true := by kernel_rfl
theorem bo30 : bodyOk Try.prog 30 = true := by kernel_rfl
theorem bo31 : bodyOk Try.prog 31 = true := by kernel_rfl
theorem bo32 : bodyOk Try.prog 32 = true := by kernel_rfl
theorem bo33 : bodyOk Try.prog 33 = true := by kernel_rfl
theorem bo34 : bodyOk Try.prog 34 = true := by kernel_rfl
theorem bo35 : bodyOk Try.prog 35 = true := by kernel_rfl
theorem bo38 : bodyOk Try.prog 38 = true := by kernel_rfl
theorem eo22 : elemO Try.prog 22 = some (44, 2) := by kernel_rfl
theorem eo23 : elemO Try.prog 23 = some (35, 7) := by kernel_rfl
theorem eo24 : elemO Try.prog 24 = some (55, 5) := by kernel_rfl
theorem eo33 : elemO Try.prog 33 = some (53, 4) := by kernel_rfl
theorem fo26_0 : fieldO Try.prog 26 0 = some 0 := by kernel_rfl
theorem fo26_1 : fieldO Try.prog 26 1 = some 1 := by kernel_rfl
theorem fo26_2 : fieldO Try.prog 26 2 = some 2 := by kernel_rfl
theorem fo26_3 : fieldO Try.prog 26 3 = some 3 := by kernel_rfl
theorem fo35_3 : fieldO Try.prog 35 3 = some 3 := by kernel_rfl
theorem fo35_4 : fieldO Try.prog 35 4 = some 4 := by kernel_rfl
theorem fo35_5 : fieldO Try.prog 35 5 = some 5 := by kernel_rfl
theorem fo44_0 : fieldO Try.prog 44 0 = some 0 := by kernel_rfl
theorem fo44_1 : fieldO Try.prog 44 1 = some 1 := by kernel_rfl
theorem fo53_3 : fieldO Try.prog 53 3 = some 3 := by kernel_rfl
theorem fo55_0 : fieldO Try.prog 55 0 = some 0 := by kernel_rfl
theorem fo55_1 : fieldO Try.prog 55 1 = some 1 := by kernel_rfl
theorem io35 : infoO Try.prog 35 = some (.agg #[.int .i64 0, .string ⟨#[]⟩, .int .i64 0, .slice none 0 0, .slice none 0 0, .slice none 0 0, .bool false], 112) := by kernel_rfl
theorem io44 : infoO Try.prog 44 = some (.agg #[.string ⟨#[]⟩, .slice none 0 0], 40) := by kernel_rfl
theorem io53 : infoO Try.prog 53 = some (.agg #[.int .i64 0, .int .i64 0, .string ⟨#[]⟩, .slice none 0 0], 56) := by kernel_rfl
theorem io55 : infoO Try.prog 55 = some (.agg #[.string ⟨#[]⟩, .int .i64 0, .int .i64 0, .string ⟨#[]⟩, .slice none 0 0], 72) := by kernel_rfl
theorem mx : Try.prog.follows .mixedOrders = true := by kernel_rfl
theorem sl22 : sliceOfT Try.prog 22 = true := by kernel_rfl
theorem sl23 : sliceOfT Try.prog 23 = true := by kernel_rfl
theorem sl24 : sliceOfT Try.prog 24 = true := by kernel_rfl
theorem sl33 : sliceOfT Try.prog 33 = true := by kernel_rfl
theorem so26 : structO Try.prog 26 = some [(0, 1), (1, 1), (2, 1), (3, 1)] := by kernel_rfl
theorem so44 : structO Try.prog 44 = some [(0, 1), (1, 1)] := by kernel_rfl
theorem so55 : structO Try.prog 55 = some [(0, 1), (1, 4)] := by kernel_rfl
theorem ss22 : isSliceT Try.prog 22 = true := by kernel_rfl
theorem ss23 : isSliceT Try.prog 23 = true := by kernel_rfl
theorem ss24 : isSliceT Try.prog 24 = true := by kernel_rfl
theorem ss33 : isSliceT Try.prog 33 = true := by kernel_rfl
theorem ty22 : tyI Try.prog 22 = some (false, 1) := by kernel_rfl
theorem ty23 : tyI Try.prog 23 = some (false, 1) := by kernel_rfl
theorem ty24 : tyI Try.prog 24 = some (false, 1) := by kernel_rfl
theorem ty26 : tyI Try.prog 26 = some (true, 4) := by kernel_rfl
theorem ty33 : tyI Try.prog 33 = some (false, 1) := by kernel_rfl
theorem ty35 : tyI Try.prog 35 = some (true, 7) := by kernel_rfl
theorem ty44 : tyI Try.prog 44 = some (true, 2) := by kernel_rfl
theorem ty53 : tyI Try.prog 53 = some (true, 4) := by kernel_rfl
theorem ty55 : tyI Try.prog 55 = some (true, 5) := by kernel_rfl
theorem ty9 : tyI Try.prog 9 = some (false, 1) := by kernel_rfl
theorem zo26 : zeroOf Try.prog 26 = some (.agg #[.slice none 0 0, .slice none 0 0, .slice none 0 0, .slice none 0 0]) := by kernel_rfl
theorem zo35 : zeroOf Try.prog 35 = some (.agg #[.int .i64 0, .string ⟨#[]⟩, .int .i64 0, .slice none 0 0, .slice none 0 0, .slice none 0 0, .bool false]) := by kernel_rfl
theorem zo44 : zeroOf Try.prog 44 = some (.agg #[.string ⟨#[]⟩, .slice none 0 0]) := by kernel_rfl
theorem zo53 : zeroOf Try.prog 53 = some (.agg #[.int .i64 0, .int .i64 0, .string ⟨#[]⟩, .slice none 0 0]) := by kernel_rfl
theorem zo55 : zeroOf Try.prog 55 = some (.agg #[.string ⟨#[]⟩, .int .i64 0, .int .i64 0, .string ⟨#[]⟩, .slice none 0 0]) := by kernel_rfl
theorem each_Expr (k : Nat) (I : Hp) (A : Option Addr) (n cp : Nat) (ds : List Ex) (O : List Value → Ex → HP) (g : Nat) (fs caps : List Value) (hO : ∀ h cs d, O cs d h → cs.length = 4 ∧ ∀ u ∈ cs, u.oneCell' = true) (hn : ds.length ≤ 4294967296) (hl : REs k I A n cp ds) (hg : bodyOk Try.prog g = true)
  (hF : ∀ I1, I.le I1 → ∀ cs d, d ∈ ds → RE k I1 cs d → Fn Try.prog g (fs ++ [Value.agg cs.toArray] ++ caps).toArray I1 [] (Ret (X := List Value) (fun _ _ => True) (fun cs' => .agg cs'.toArray) fun cs' => [O cs' d])) :
  Fn Try.prog 38 #[.slice A n cp, .func (.func g) fs.toArray caps.toArray] I [] (Ret (X := Option Addr × Nat) (fun _ _ => True) (fun p => .slice p.1 ds.length p.2) fun p => [OSl O 53 4 p.1 ds.length p.2 ds]) := by
 have hnn := hl.1
 refine Fn.of (args := [_, _]) Try.func38 rfl rfl ?_
 refine JJ.seq ?_
 refine JJ.region rfl fun rg => ?_
 refine JJ.assign rg rfl rfl rfl ?_
 refine JJ.regionEnd ?_
 refine JJ.seq ?_
 refine JJ.region rfl fun rg => ?_
 refine JJ.assign rg rfl rfl rfl ?_
 refine JJ.regionEnd ?_
 refine JJ.seq ?_
 refine JJ.seq ?_
 refine JJ.region rfl fun rg => ?_
 refine JJ.move rg rfl rfl rfl ?_
 refine JJ.lenSlice ss33 rg rfl rfl rfl ?_
 refine JJ.move rg rfl rfl rfl ?_
 refine JJ.regionEnd ?_
 refine JJ.block ?_
 refine JJ.ownNil 53 4 ?_
 refine JJ.res (L' := [own 53 4 none 0 0 (List.flatten []), zO O [] []]) (fun h q => (zO.nil q).swap) ?_
 refine JJ.induct (X := Nat × Hp × Option Addr × Nat × List (List Value))
  (fun x => [(1, .func (.func g) fs.toArray caps.toArray), (8, .slice A n cp), (9, .int .i64 n), (10, .int .i64 x.1), (5, .slice x.2.2.1 x.1 x.2.2.2.1)])
  (fun x => x.2.1) (fun x => [own 53 4 x.2.2.1 x.1 x.2.2.2.1 x.2.2.2.2.flatten, zO O x.2.2.2.2 (ds.take x.1)])
  (fun x => x.1 ≤ ds.length ∧ I.le x.2.1 ∧ x.2.2.2.2.length = x.1 ∧ ∀ c ∈ x.2.2.2.2, c.length = 4 ∧ ∀ u ∈ c, u.oneCell' = true)
  (fun x => ds.length - x.1) (0, I, none, 0, []) ⟨Nat.zero_le _, .refl _, rfl, fun _ h => by cases h⟩ (fun h => JJ.keep _ (by repeat (first | exact trivial | refine ⟨rfl, ?_⟩)) h) ?_
 rintro ⟨j, I1, A1, c1, css⟩ ⟨hj, hle, hcl, hc⟩ ih
 dsimp only at hj hle hcl hc ih ⊢
 refine JJ.seq ?_
 refine JJ.region rfl fun rg => ?_
 refine JJ.bin rg rfl rfl rfl rfl rfl ?_
 refine JJ.regionEnd ?_
 refine JJ.seq ?_
 refine JJ.cond2 rfl (fun hc3 => ?_) (fun hc3 => ?_)
 ·
  have hc3b : (decide ((((j : Nat) : Int) : Int) < (n : Int))) = true := hc3
  replace hc3 := of_decide_eq_true hc3
  have hlt : j < ds.length := by omega
  obtain ⟨d, hd⟩ : ∃ d, ds[j]? = some d := ⟨_, List.getElem?_eq_getElem hlt⟩
  refine JJ.skip ?_
  refine JJ.seq ?_
  refine JJ.block ?_
  refine JJ.seq ?_
  refine JJ.region rfl fun rg => ?_
  obtain ⟨a, cs, hA, hcap, hcl0, hre, hrow⟩ := RSl.get (REs.mono hl hle) hd
  cases hA
  refine JJ.indexAddr (a' := a.add (j * 4)) eo33 rg rfl rfl rfl rfl (by omega) (by omega) rfl ?_
  refine JJ.loadI (v := .agg (cs).toArray) ty53 rg rfl rfl rfl hrow (ldV_all hcl0) ?_
  refine JJ.alloc (cs := [.int .i64 0, .int .i64 0, .string (⟨#[]⟩), .slice (none) (0) (0)]) zo53 rfl rg rfl rfl fun b1 => ?_
  refine JJ.store (cs' := cs) ty53 0 rg rfl rfl rfl rfl rfl rfl (by simp [hcl0]) (by simpa using hre.one) (by simp [hcl0]) (stC_all (by simp [hcl0])) rfl ?_
  refine JJ.regionEnd ?_
  refine JJ.region rfl fun rg => ?_
  refine JJ.move rg rfl rfl rfl ?_
  refine JJ.move rg rfl rfl rfl ?_
  refine JJ.loadL (v := .agg (cs).toArray) ty53 0 rg rfl rfl rfl rfl (ldV_all hcl0) ?_
  refine JJ.call (Lc := []) (Lr := [_, _, _]) hg rg rfl rfl rfl rfl (hF _ hle cs d (List.mem_of_getElem? hd) hre) (fun _ q => q) fun cs1 I2 hle2 _ => ?_
  dsimp only [List.cons_append, List.nil_append]
  refine JJ.peek (hO · _ _) fun hcs1 => ?_
  replace hle := hle.trans hle2
  refine JJ.buildSlice (cs := cs1) eo33 zo53 rg rfl rfl rfl rfl rfl (fillA_one (by simp) hcs1.1) rfl fun b2 => ?_
  refine JJ.append eo33 io53 rfl 3 rg rfl rfl rfl rfl rfl (SrcOk.ofLit (news := cs1) sl33 0 rfl (by simp [hcs1.1]) hcs1.2) (by omega) fun A3 c4 => ?_
  dsimp only [List.set]
  refine JJ.assign rg rfl rfl rfl ?_
  refine JJ.regionEnd ?_
  refine JJ.inBlock ?_
  refine JJ.region rfl fun rg => ?_
  refine JJ.binI (z := ((j + 1 : Nat) : Int)) rg rfl rfl rfl rfl rfl (wrap_to (by omega) (by omega) (by omega)) ?_
  refine JJ.move rg rfl rfl rfl ?_
  refine JJ.regionEnd ?_
  refine JJ.drop ?_
  refine JJ.pull 1 rfl rfl ?_
  refine JJ.drop ?_
  refine JJ.pull 1 rfl rfl ?_
  rw [show css.flatten ++ cs1 = (css ++ [cs1]).flatten from by simp]
  refine JJ.res (L' := [_, zO O (css ++ [cs1]) (ds.take (j + 1))]) (fun h q => by rw [List.take_add_one, hd]; exact Sat.swap (zO.snoc (by simp; omega) (Sat.perm ((List.Perm.swap _ _ _).trans ((List.Perm.swap _ _ _).cons _)) q))) ?_
  refine JJ.keep _ ?_ (ih (j + 1, I2, A3, c4, css ++ [cs1]) ⟨hlt, hle, by simp [hcl], ?_⟩ (by dsimp only; omega))
  · repeat (first | exact trivial | refine ⟨rfl, ?_⟩)
  · intro c hc2; rcases List.mem_append.1 hc2 with h | h; exact hc c h; rw [List.mem_singleton] at h; subst h; exact hcs1
 ·
  have hc3b : (decide ((((j : Nat) : Int) : Int) < (n : Int))) = false := hc3
  replace hc3 := of_decide_eq_false hc3
  refine JJ.exit rfl ?_
  refine JJ.seq ?_
  refine JJ.region rfl fun rg => ?_
  refine JJ.move rg rfl rfl rfl ?_
  refine JJ.assign rg rfl rfl rfl ?_
  refine JJ.regionEnd ?_
  obtain rfl : j = ds.length := by omega
  rw [List.take_length]
  refine JJ.ret1 rfl Try.func38 rfl rfl fun h q => ⟨(A1, c1), trivial, rfl, OSl.intro rfl hcl hc q⟩
theorem each_Stmt (k : Nat) (I : Hp) (A : Option Addr) (n cp : Nat) (ds : List St) (O : List Value → St → HP) (g : Nat) (fs caps : List Value) (hO : ∀ h cs d, O cs d h → cs.length = 7 ∧ ∀ u ∈ cs, u.oneCell' = true) (hn : ds.length ≤ 4294967296) (hl : RSs k I A n cp ds) (hg : bodyOk Try.prog g = true)
  (hF : ∀ I1, I.le I1 → ∀ cs d, d ∈ ds → RS k I1 cs d → Fn Try.prog g (fs ++ [Value.agg cs.toArray] ++ caps).toArray I1 [] (Ret (X := List Value) (fun _ _ => True) (fun cs' => .agg cs'.toArray) fun cs' => [O cs' d])) :
  Fn Try.prog 32 #[.slice A n cp, .func (.func g) fs.toArray caps.toArray] I [] (Ret (X := Option Addr × Nat) (fun _ _ => True) (fun p => .slice p.1 ds.length p.2) fun p => [OSl O 35 7 p.1 ds.length p.2 ds]) := by
 have hnn := hl.1
 refine Fn.of (args := [_, _]) Try.func32 rfl rfl ?_
 refine JJ.seq ?_
 refine JJ.region rfl fun rg => ?_
 refine JJ.assign rg rfl rfl rfl ?_
 refine JJ.regionEnd ?_
 refine JJ.seq ?_
 refine JJ.region rfl fun rg => ?_
 refine JJ.assign rg rfl rfl rfl ?_
 refine JJ.regionEnd ?_
 refine JJ.seq ?_
 refine JJ.seq ?_
 refine JJ.region rfl fun rg => ?_
 refine JJ.move rg rfl rfl rfl ?_
 refine JJ.lenSlice ss23 rg rfl rfl rfl ?_
 refine JJ.move rg rfl rfl rfl ?_
 refine JJ.regionEnd ?_
 refine JJ.block ?_
 refine JJ.ownNil 35 7 ?_
 refine JJ.res (L' := [own 35 7 none 0 0 (List.flatten []), zO O [] []]) (fun h q => (zO.nil q).swap) ?_
 refine JJ.induct (X := Nat × Hp × Option Addr × Nat × List (List Value))
  (fun x => [(1, .func (.func g) fs.toArray caps.toArray), (8, .slice A n cp), (9, .int .i64 n), (10, .int .i64 x.1), (5, .slice x.2.2.1 x.1 x.2.2.2.1)])
  (fun x => x.2.1) (fun x => [own 35 7 x.2.2.1 x.1 x.2.2.2.1 x.2.2.2.2.flatten, zO O x.2.2.2.2 (ds.take x.1)])
  (fun x => x.1 ≤ ds.length ∧ I.le x.2.1 ∧ x.2.2.2.2.length = x.1 ∧ ∀ c ∈ x.2.2.2.2, c.length = 7 ∧ ∀ u ∈ c, u.oneCell' = true)
  (fun x => ds.length - x.1) (0, I, none, 0, []) ⟨Nat.zero_le _, .refl _, rfl, fun _ h => by cases h⟩ (fun h => JJ.keep _ (by repeat (first | exact trivial | refine ⟨rfl, ?_⟩)) h) ?_
 rintro ⟨j, I1, A1, c1, css⟩ ⟨hj, hle, hcl, hc⟩ ih
 dsimp only at hj hle hcl hc ih ⊢
 refine JJ.seq ?_
 refine JJ.region rfl fun rg => ?_
 refine JJ.bin rg rfl rfl rfl rfl rfl ?_
 refine JJ.regionEnd ?_
 refine JJ.seq ?_
 refine JJ.cond2 rfl (fun hc3 => ?_) (fun hc3 => ?_)
 ·
  have hc3b : (decide ((((j : Nat) : Int) : Int) < (n : Int))) = true := hc3
  replace hc3 := of_decide_eq_true hc3
  have hlt : j < ds.length := by omega
  obtain ⟨d, hd⟩ : ∃ d, ds[j]? = some d := ⟨_, List.getElem?_eq_getElem hlt⟩
  refine JJ.skip ?_
  refine JJ.seq ?_
  refine JJ.block ?_
  refine JJ.seq ?_
  refine JJ.region rfl fun rg => ?_
  obtain ⟨a, cs, hA, hcap, hcl0, hre, hrow⟩ := RSl.get (RSs.mono hl hle) hd
  cases hA
  refine JJ.indexAddr (a' := a.add (j * 7)) eo23 rg rfl rfl rfl rfl (by omega) (by omega) rfl ?_
  refine JJ.loadI (v := .agg (cs).toArray) ty35 rg rfl rfl rfl hrow (ldV_all hcl0) ?_
  refine JJ.alloc (cs := [.int .i64 0, .string (⟨#[]⟩), .int .i64 0, .slice (none) (0) (0), .slice (none) (0) (0), .slice (none) (0) (0), .bool false]) zo35 rfl rg rfl rfl fun b1 => ?_
  refine JJ.store (cs' := cs) ty35 0 rg rfl rfl rfl rfl rfl rfl (by simp [hcl0]) (by simpa using hre.one) (by simp [hcl0]) (stC_all (by simp [hcl0])) rfl ?_
  refine JJ.regionEnd ?_
  refine JJ.region rfl fun rg => ?_
  refine JJ.move rg rfl rfl rfl ?_
  refine JJ.move rg rfl rfl rfl ?_
  refine JJ.loadL (v := .agg (cs).toArray) ty35 0 rg rfl rfl rfl rfl (ldV_all hcl0) ?_
  refine JJ.call (Lc := []) (Lr := [_, _, _]) hg rg rfl rfl rfl rfl (hF _ hle cs d (List.mem_of_getElem? hd) hre) (fun _ q => q) fun cs1 I2 hle2 _ => ?_
  dsimp only [List.cons_append, List.nil_append]
  refine JJ.peek (hO · _ _) fun hcs1 => ?_
  replace hle := hle.trans hle2
  refine JJ.buildSlice (cs := cs1) eo23 zo35 rg rfl rfl rfl rfl rfl (fillA_one (by simp) hcs1.1) rfl fun b2 => ?_
  refine JJ.append eo23 io35 rfl 3 rg rfl rfl rfl rfl rfl (SrcOk.ofLit (news := cs1) sl23 0 rfl (by simp [hcs1.1]) hcs1.2) (by omega) fun A3 c4 => ?_
  dsimp only [List.set]
  refine JJ.assign rg rfl rfl rfl ?_
  refine JJ.regionEnd ?_
  refine JJ.inBlock ?_
  refine JJ.region rfl fun rg => ?_
  refine JJ.binI (z := ((j + 1 : Nat) : Int)) rg rfl rfl rfl rfl rfl (wrap_to (by omega) (by omega) (by omega)) ?_
  refine JJ.move rg rfl rfl rfl ?_
  refine JJ.regionEnd ?_
  refine JJ.drop ?_
  refine JJ.pull 1 rfl rfl ?_
  refine JJ.drop ?_
  refine JJ.pull 1 rfl rfl ?_
  rw [show css.flatten ++ cs1 = (css ++ [cs1]).flatten from by simp]
  refine JJ.res (L' := [_, zO O (css ++ [cs1]) (ds.take (j + 1))]) (fun h q => by rw [List.take_add_one, hd]; exact Sat.swap (zO.snoc (by simp; omega) (Sat.perm ((List.Perm.swap _ _ _).trans ((List.Perm.swap _ _ _).cons _)) q))) ?_
  refine JJ.keep _ ?_ (ih (j + 1, I2, A3, c4, css ++ [cs1]) ⟨hlt, hle, by simp [hcl], ?_⟩ (by dsimp only; omega))
  · repeat (first | exact trivial | refine ⟨rfl, ?_⟩)
  · intro c hc2; rcases List.mem_append.1 hc2 with h | h; exact hc c h; rw [List.mem_singleton] at h; subst h; exact hcs1
 ·
  have hc3b : (decide ((((j : Nat) : Int) : Int) < (n : Int))) = false := hc3
  replace hc3 := of_decide_eq_false hc3
  refine JJ.exit rfl ?_
  refine JJ.seq ?_
  refine JJ.region rfl fun rg => ?_
  refine JJ.move rg rfl rfl rfl ?_
  refine JJ.assign rg rfl rfl rfl ?_
  refine JJ.regionEnd ?_
  obtain rfl : j = ds.length := by omega
  rw [List.take_length]
  refine JJ.ret1 rfl Try.func32 rfl rfl fun h q => ⟨(A1, c1), trivial, rfl, OSl.intro rfl hcl hc q⟩
theorem each_Proc (k : Nat) (I : Hp) (A : Option Addr) (n cp : Nat) (ds : List Pc) (O : List Value → Pc → HP) (g : Nat) (fs caps : List Value) (hO : ∀ h cs d, O cs d h → cs.length = 2 ∧ ∀ u ∈ cs, u.oneCell' = true) (hn : ds.length ≤ 4294967296) (hl : RPcs k I A n cp ds) (hg : bodyOk Try.prog g = true)
  (hF : ∀ I1, I.le I1 → ∀ cs d, d ∈ ds → RPc k I1 cs d → Fn Try.prog g (fs ++ [Value.agg cs.toArray] ++ caps).toArray I1 [] (Ret (X := List Value) (fun _ _ => True) (fun cs' => .agg cs'.toArray) fun cs' => [O cs' d])) :
  Fn Try.prog 30 #[.slice A n cp, .func (.func g) fs.toArray caps.toArray] I [] (Ret (X := Option Addr × Nat) (fun _ _ => True) (fun p => .slice p.1 ds.length p.2) fun p => [OSl O 44 2 p.1 ds.length p.2 ds]) := by
 have hnn := hl.1
 refine Fn.of (args := [_, _]) Try.func30 rfl rfl ?_
 refine JJ.seq ?_
 refine JJ.region rfl fun rg => ?_
 refine JJ.assign rg rfl rfl rfl ?_
 refine JJ.regionEnd ?_
 refine JJ.seq ?_
 refine JJ.region rfl fun rg => ?_
 refine JJ.assign rg rfl rfl rfl ?_
 refine JJ.regionEnd ?_
 refine JJ.seq ?_
 refine JJ.seq ?_
 refine JJ.region rfl fun rg => ?_
 refine JJ.move rg rfl rfl rfl ?_
 refine JJ.lenSlice ss22 rg rfl rfl rfl ?_
 refine JJ.move rg rfl rfl rfl ?_
 refine JJ.regionEnd ?_
 refine JJ.block ?_
 refine JJ.ownNil 44 2 ?_
 refine JJ.res (L' := [own 44 2 none 0 0 (List.flatten []), zO O [] []]) (fun h q => (zO.nil q).swap) ?_
 refine JJ.induct (X := Nat × Hp × Option Addr × Nat × List (List Value))
  (fun x => [(1, .func (.func g) fs.toArray caps.toArray), (8, .slice A n cp), (9, .int .i64 n), (10, .int .i64 x.1), (5, .slice x.2.2.1 x.1 x.2.2.2.1)])
  (fun x => x.2.1) (fun x => [own 44 2 x.2.2.1 x.1 x.2.2.2.1 x.2.2.2.2.flatten, zO O x.2.2.2.2 (ds.take x.1)])
  (fun x => x.1 ≤ ds.length ∧ I.le x.2.1 ∧ x.2.2.2.2.length = x.1 ∧ ∀ c ∈ x.2.2.2.2, c.length = 2 ∧ ∀ u ∈ c, u.oneCell' = true)
  (fun x => ds.length - x.1) (0, I, none, 0, []) ⟨Nat.zero_le _, .refl _, rfl, fun _ h => by cases h⟩ (fun h => JJ.keep _ (by repeat (first | exact trivial | refine ⟨rfl, ?_⟩)) h) ?_
 rintro ⟨j, I1, A1, c1, css⟩ ⟨hj, hle, hcl, hc⟩ ih
 dsimp only at hj hle hcl hc ih ⊢
 refine JJ.seq ?_
 refine JJ.region rfl fun rg => ?_
 refine JJ.bin rg rfl rfl rfl rfl rfl ?_
 refine JJ.regionEnd ?_
 refine JJ.seq ?_
 refine JJ.cond2 rfl (fun hc3 => ?_) (fun hc3 => ?_)
 ·
  have hc3b : (decide ((((j : Nat) : Int) : Int) < (n : Int))) = true := hc3
  replace hc3 := of_decide_eq_true hc3
  have hlt : j < ds.length := by omega
  obtain ⟨d, hd⟩ : ∃ d, ds[j]? = some d := ⟨_, List.getElem?_eq_getElem hlt⟩
  refine JJ.skip ?_
  refine JJ.seq ?_
  refine JJ.block ?_
  refine JJ.seq ?_
  refine JJ.region rfl fun rg => ?_
  obtain ⟨a, cs, hA, hcap, hcl0, hre, hrow⟩ := RSl.get (RPcs.mono hl hle) hd
  cases hA
  refine JJ.indexAddr (a' := a.add (j * 2)) eo22 rg rfl rfl rfl rfl (by omega) (by omega) rfl ?_
  refine JJ.loadI (v := .agg (cs).toArray) ty44 rg rfl rfl rfl hrow (ldV_all hcl0) ?_
  refine JJ.alloc (cs := [.string (⟨#[]⟩), .slice (none) (0) (0)]) zo44 rfl rg rfl rfl fun b1 => ?_
  refine JJ.store (cs' := cs) ty44 0 rg rfl rfl rfl rfl rfl rfl (by simp [hcl0]) (by simpa using hre.one) (by simp [hcl0]) (stC_all (by simp [hcl0])) rfl ?_
  refine JJ.regionEnd ?_
  refine JJ.region rfl fun rg => ?_
  refine JJ.move rg rfl rfl rfl ?_
  refine JJ.move rg rfl rfl rfl ?_
  refine JJ.loadL (v := .agg (cs).toArray) ty44 0 rg rfl rfl rfl rfl (ldV_all hcl0) ?_
  refine JJ.call (Lc := []) (Lr := [_, _, _]) hg rg rfl rfl rfl rfl (hF _ hle cs d (List.mem_of_getElem? hd) hre) (fun _ q => q) fun cs1 I2 hle2 _ => ?_
  dsimp only [List.cons_append, List.nil_append]
  refine JJ.peek (hO · _ _) fun hcs1 => ?_
  replace hle := hle.trans hle2
  refine JJ.buildSlice (cs := cs1) eo22 zo44 rg rfl rfl rfl rfl rfl (fillA_one (by simp) hcs1.1) rfl fun b2 => ?_
  refine JJ.append eo22 io44 rfl 3 rg rfl rfl rfl rfl rfl (SrcOk.ofLit (news := cs1) sl22 0 rfl (by simp [hcs1.1]) hcs1.2) (by omega) fun A3 c4 => ?_
  dsimp only [List.set]
  refine JJ.assign rg rfl rfl rfl ?_
  refine JJ.regionEnd ?_
  refine JJ.inBlock ?_
  refine JJ.region rfl fun rg => ?_
  refine JJ.binI (z := ((j + 1 : Nat) : Int)) rg rfl rfl rfl rfl rfl (wrap_to (by omega) (by omega) (by omega)) ?_
  refine JJ.move rg rfl rfl rfl ?_
  refine JJ.regionEnd ?_
  refine JJ.drop ?_
  refine JJ.pull 1 rfl rfl ?_
  refine JJ.drop ?_
  refine JJ.pull 1 rfl rfl ?_
  rw [show css.flatten ++ cs1 = (css ++ [cs1]).flatten from by simp]
  refine JJ.res (L' := [_, zO O (css ++ [cs1]) (ds.take (j + 1))]) (fun h q => by rw [List.take_add_one, hd]; exact Sat.swap (zO.snoc (by simp; omega) (Sat.perm ((List.Perm.swap _ _ _).trans ((List.Perm.swap _ _ _).cons _)) q))) ?_
  refine JJ.keep _ ?_ (ih (j + 1, I2, A3, c4, css ++ [cs1]) ⟨hlt, hle, by simp [hcl], ?_⟩ (by dsimp only; omega))
  · repeat (first | exact trivial | refine ⟨rfl, ?_⟩)
  · intro c hc2; rcases List.mem_append.1 hc2 with h | h; exact hc c h; rw [List.mem_singleton] at h; subst h; exact hcs1
 ·
  have hc3b : (decide ((((j : Nat) : Int) : Int) < (n : Int))) = false := hc3
  replace hc3 := of_decide_eq_false hc3
  refine JJ.exit rfl ?_
  refine JJ.seq ?_
  refine JJ.region rfl fun rg => ?_
  refine JJ.move rg rfl rfl rfl ?_
  refine JJ.assign rg rfl rfl rfl ?_
  refine JJ.regionEnd ?_
  obtain rfl : j = ds.length := by omega
  rw [List.take_length]
  refine JJ.ret1 rfl Try.func30 rfl rfl fun h q => ⟨(A1, c1), trivial, rfl, OSl.intro rfl hcl hc q⟩
theorem each_Oracle (k : Nat) (I : Hp) (A : Option Addr) (n cp : Nat) (ds : List Oc) (O : List Value → Oc → HP) (g : Nat) (fs caps : List Value) (hO : ∀ h cs d, O cs d h → cs.length = 5 ∧ ∀ u ∈ cs, u.oneCell' = true) (hn : ds.length ≤ 4294967296) (hl : ROcs k I A n cp ds) (hg : bodyOk Try.prog g = true)
  (hF : ∀ I1, I.le I1 → ∀ cs d, d ∈ ds → ROc k I1 cs d → Fn Try.prog g (fs ++ [Value.agg cs.toArray] ++ caps).toArray I1 [] (Ret (X := List Value) (fun _ _ => True) (fun cs' => .agg cs'.toArray) fun cs' => [O cs' d])) :
  Fn Try.prog 33 #[.slice A n cp, .func (.func g) fs.toArray caps.toArray] I [] (Ret (X := Option Addr × Nat) (fun _ _ => True) (fun p => .slice p.1 ds.length p.2) fun p => [OSl O 55 5 p.1 ds.length p.2 ds]) := by
 have hnn := hl.1
 refine Fn.of (args := [_, _]) Try.func33 rfl rfl ?_
 refine JJ.seq ?_
 refine JJ.region rfl fun rg => ?_
 refine JJ.assign rg rfl rfl rfl ?_
 refine JJ.regionEnd ?_
 refine JJ.seq ?_
 refine JJ.region rfl fun rg => ?_
 refine JJ.assign rg rfl rfl rfl ?_
 refine JJ.regionEnd ?_
 refine JJ.seq ?_
 refine JJ.seq ?_
 refine JJ.region rfl fun rg => ?_
 refine JJ.move rg rfl rfl rfl ?_
 refine JJ.lenSlice ss24 rg rfl rfl rfl ?_
 refine JJ.move rg rfl rfl rfl ?_
 refine JJ.regionEnd ?_
 refine JJ.block ?_
 refine JJ.ownNil 55 5 ?_
 refine JJ.res (L' := [own 55 5 none 0 0 (List.flatten []), zO O [] []]) (fun h q => (zO.nil q).swap) ?_
 refine JJ.induct (X := Nat × Hp × Option Addr × Nat × List (List Value))
  (fun x => [(1, .func (.func g) fs.toArray caps.toArray), (8, .slice A n cp), (9, .int .i64 n), (10, .int .i64 x.1), (5, .slice x.2.2.1 x.1 x.2.2.2.1)])
  (fun x => x.2.1) (fun x => [own 55 5 x.2.2.1 x.1 x.2.2.2.1 x.2.2.2.2.flatten, zO O x.2.2.2.2 (ds.take x.1)])
  (fun x => x.1 ≤ ds.length ∧ I.le x.2.1 ∧ x.2.2.2.2.length = x.1 ∧ ∀ c ∈ x.2.2.2.2, c.length = 5 ∧ ∀ u ∈ c, u.oneCell' = true)
  (fun x => ds.length - x.1) (0, I, none, 0, []) ⟨Nat.zero_le _, .refl _, rfl, fun _ h => by cases h⟩ (fun h => JJ.keep _ (by repeat (first | exact trivial | refine ⟨rfl, ?_⟩)) h) ?_
 rintro ⟨j, I1, A1, c1, css⟩ ⟨hj, hle, hcl, hc⟩ ih
 dsimp only at hj hle hcl hc ih ⊢
 refine JJ.seq ?_
 refine JJ.region rfl fun rg => ?_
 refine JJ.bin rg rfl rfl rfl rfl rfl ?_
 refine JJ.regionEnd ?_
 refine JJ.seq ?_
 refine JJ.cond2 rfl (fun hc3 => ?_) (fun hc3 => ?_)
 ·
  have hc3b : (decide ((((j : Nat) : Int) : Int) < (n : Int))) = true := hc3
  replace hc3 := of_decide_eq_true hc3
  have hlt : j < ds.length := by omega
  obtain ⟨d, hd⟩ : ∃ d, ds[j]? = some d := ⟨_, List.getElem?_eq_getElem hlt⟩
  refine JJ.skip ?_
  refine JJ.seq ?_
  refine JJ.block ?_
  refine JJ.seq ?_
  refine JJ.region rfl fun rg => ?_
  obtain ⟨a, cs, hA, hcap, hcl0, hre, hrow⟩ := RSl.get (ROcs.mono hl hle) hd
  cases hA
  refine JJ.indexAddr (a' := a.add (j * 5)) eo24 rg rfl rfl rfl rfl (by omega) (by omega) rfl ?_
  refine JJ.loadI (v := .agg (cs).toArray) ty55 rg rfl rfl rfl hrow (ldV_all hcl0) ?_
  refine JJ.alloc (cs := [.string (⟨#[]⟩), .int .i64 0, .int .i64 0, .string (⟨#[]⟩), .slice (none) (0) (0)]) zo55 rfl rg rfl rfl fun b1 => ?_
  refine JJ.store (cs' := cs) ty55 0 rg rfl rfl rfl rfl rfl rfl (by simp [hcl0]) (by simpa using hre.one) (by simp [hcl0]) (stC_all (by simp [hcl0])) rfl ?_
  refine JJ.regionEnd ?_
  refine JJ.region rfl fun rg => ?_
  refine JJ.move rg rfl rfl rfl ?_
  refine JJ.move rg rfl rfl rfl ?_
  refine JJ.loadL (v := .agg (cs).toArray) ty55 0 rg rfl rfl rfl rfl (ldV_all hcl0) ?_
  refine JJ.call (Lc := []) (Lr := [_, _, _]) hg rg rfl rfl rfl rfl (hF _ hle cs d (List.mem_of_getElem? hd) hre) (fun _ q => q) fun cs1 I2 hle2 _ => ?_
  dsimp only [List.cons_append, List.nil_append]
  refine JJ.peek (hO · _ _) fun hcs1 => ?_
  replace hle := hle.trans hle2
  refine JJ.buildSlice (cs := cs1) eo24 zo55 rg rfl rfl rfl rfl rfl (fillA_one (by simp) hcs1.1) rfl fun b2 => ?_
  refine JJ.append eo24 io55 rfl 3 rg rfl rfl rfl rfl rfl (SrcOk.ofLit (news := cs1) sl24 0 rfl (by simp [hcs1.1]) hcs1.2) (by omega) fun A3 c4 => ?_
  dsimp only [List.set]
  refine JJ.assign rg rfl rfl rfl ?_
  refine JJ.regionEnd ?_
  refine JJ.inBlock ?_
  refine JJ.region rfl fun rg => ?_
  refine JJ.binI (z := ((j + 1 : Nat) : Int)) rg rfl rfl rfl rfl rfl (wrap_to (by omega) (by omega) (by omega)) ?_
  refine JJ.move rg rfl rfl rfl ?_
  refine JJ.regionEnd ?_
  refine JJ.drop ?_
  refine JJ.pull 1 rfl rfl ?_
  refine JJ.drop ?_
  refine JJ.pull 1 rfl rfl ?_
  rw [show css.flatten ++ cs1 = (css ++ [cs1]).flatten from by simp]
  refine JJ.res (L' := [_, zO O (css ++ [cs1]) (ds.take (j + 1))]) (fun h q => by rw [List.take_add_one, hd]; exact Sat.swap (zO.snoc (by simp; omega) (Sat.perm ((List.Perm.swap _ _ _).trans ((List.Perm.swap _ _ _).cons _)) q))) ?_
  refine JJ.keep _ ?_ (ih (j + 1, I2, A3, c4, css ++ [cs1]) ⟨hlt, hle, by simp [hcl], ?_⟩ (by dsimp only; omega))
  · repeat (first | exact trivial | refine ⟨rfl, ?_⟩)
  · intro c hc2; rcases List.mem_append.1 hc2 with h | h; exact hc c h; rw [List.mem_singleton] at h; subst h; exact hcs1
 ·
  have hc3b : (decide ((((j : Nat) : Int) : Int) < (n : Int))) = false := hc3
  replace hc3 := of_decide_eq_false hc3
  refine JJ.exit rfl ?_
  refine JJ.seq ?_
  refine JJ.region rfl fun rg => ?_
  refine JJ.move rg rfl rfl rfl ?_
  refine JJ.assign rg rfl rfl rfl ?_
  refine JJ.regionEnd ?_
  obtain rfl : j = ds.length := by omega
  rw [List.take_length]
  refine JJ.ret1 rfl Try.func33 rfl rfl fun h q => ⟨(A1, c1), trivial, rfl, OSl.intro rfl hcl hc q⟩
theorem clonedExpr : ∀ (k : Nat) (I : Hp) (cs : List Value) (x : Ex), RE k I cs x → x.sz ≤ 4294967296 → Fn Try.prog 35 #[.agg cs.toArray] I [] (Ret (X := List Value) (fun _ _ => True) (fun cs' => .agg cs'.toArray) fun cs' => [OE 53 k cs' x]) := by
 intro k
 induction k with
 | zero => intro I cs x h; exact h.elim
 | succ k ih =>
 intro I cs x hre hsz
 obtain ⟨A, m, cp, rfl, hx⟩ := hre
 have hz := x.sz_eq
 obtain rfl := hx.1
 have hll := Ex.szl_len x.x
 change REs k I A x.x.length cp x.x at hx
 show Fn _ _ _ _ _ _
 refine Fn.of (args := [_]) Try.func35 rfl rfl ?_
 refine JJ.seq ?_
 refine JJ.region rfl fun rg => ?_
 refine JJ.box (cs := [.int .i64 (x.op), .int .i64 (x.n), .string (x.s), .slice (A) (x.x.length) (cp)]) rg rfl rfl rfl rfl fun b1 => ?_
 refine JJ.alloc (cs := [.int .i64 0, .int .i64 0, .string (⟨#[]⟩), .slice (none) (0) (0)]) zo53 rfl rg rfl rfl fun b2 => ?_
 refine JJ.regionEnd ?_
 refine JJ.seq ?_
 refine JJ.region rfl fun rg => ?_
 refine JJ.fieldAddr (a' := ⟨b1, 3, none⟩) fo53_3 rg rfl rfl rfl rfl ?_
 refine JJ.loadL (v := .slice (A) (x.x.length) (cp)) ty33 1 rg rfl rfl rfl rfl rfl ?_
 (try dsimp only [List.set])
 refine JJ.call (Lc := []) (Lr := [_, _]) bo38 rg rfl rfl rfl rfl (each_Expr k I A x.x.length cp x.x (OE 53 k) 35 [] [] (fun _ _ _ => OE.len) (by omega) hx bo35 fun I1 _ cs d hd hr => ih I1 cs d hr (by have := Ex.szl_mem hd; omega)) (fun _ q => q) fun ⟨A1, cp1⟩ I3 hle4 _ => ?_
 dsimp only [List.cons_append, List.nil_append]
 refine JJ.fieldAddr (a' := ⟨b1, 3, none⟩) fo53_3 rg rfl rfl rfl rfl ?_
 refine JJ.store (cs' := [.int .i64 (x.op), .int .i64 (x.n), .string (x.s), .slice (A1) (x.x.length) (cp1)]) ty33 2 rg rfl rfl rfl rfl rfl rfl rfl rfl rfl rfl rfl ?_
 refine JJ.regionEnd ?_
 refine JJ.seq ?_
 refine JJ.region rfl fun rg => ?_
 refine JJ.loadL (v := .agg #[.int .i64 (x.op), .int .i64 (x.n), .string (x.s), .slice (A1) (x.x.length) (cp1)]) ty53 2 rg rfl rfl rfl rfl rfl ?_
 refine JJ.store (cs' := [.int .i64 (x.op), .int .i64 (x.n), .string (x.s), .slice (A1) (x.x.length) (cp1)]) ty53 1 rg rfl rfl rfl rfl rfl rfl rfl rfl rfl rfl rfl ?_
 refine JJ.regionEnd ?_
 refine JJ.pull 1 rfl rfl ?_
 refine JJ.pull 1 rfl rfl ?_
 refine JJ.retc (v := .agg #[.int .i64 (x.op), .int .i64 (x.n), .string (x.s), .slice (A1) (x.x.length) (cp1)]) ty53 1 rfl Try.func35 rfl rfl rfl rfl (fun h q => ⟨[_, _, _, _], trivial, rfl, ?_⟩)
 exact let ⟨h1, h2, a, _, _, o1, _⟩ := q; ⟨h1, h2, a, by assumption, by assumption, ⟨A1, cp1, rfl, o1⟩, trivial⟩
theorem cloned : ∀ (k : Nat) (I : Hp) (cs : List Value) (x : St), RS k I cs x → x.sz ≤ 4294967296 → Fn Try.prog 19 #[.agg cs.toArray] I [] (Ret (X := List Value) (fun _ _ => True) (fun cs' => .agg cs'.toArray) fun cs' => [OT 53 35 k cs' x]) := by
 intro k
 induction k with
 | zero => intro I cs x h; exact h.elim
 | succ k ih =>
 intro I cs x hre hsz
 obtain ⟨A, m, cp, A1, m1, cp1, A2, m2, cp2, rfl, hx, hx1, hx2⟩ := hre
 have hz := x.sz_eq
 obtain rfl := hx.1
 obtain rfl := hx1.1
 obtain rfl := hx2.1
 have hll := Ex.szl_len x.e
 have hll1 := St.szl_len x.body
 have hll2 := St.szl_len x.els
 change REs k I A x.e.length cp x.e at hx
 change RSs k I A1 x.body.length cp1 x.body at hx1
 change RSs k I A2 x.els.length cp2 x.els at hx2
 show Fn _ _ _ _ _ _
 refine Fn.of (args := [_]) Try.func19 rfl rfl ?_
 refine JJ.seq ?_
 refine JJ.region rfl fun rg => ?_
 refine JJ.box (cs := [.int .i64 (x.op), .string (x.s), .int .i64 (x.n), .slice (A) (x.e.length) (cp), .slice (A1) (x.body.length) (cp1), .slice (A2) (x.els.length) (cp2), .bool (x.commit)]) rg rfl rfl rfl rfl fun b1 => ?_
 refine JJ.alloc (cs := [.int .i64 0, .string (⟨#[]⟩), .int .i64 0, .slice (none) (0) (0), .slice (none) (0) (0), .slice (none) (0) (0), .bool false]) zo35 rfl rg rfl rfl fun b2 => ?_
 refine JJ.regionEnd ?_
 refine JJ.seq ?_
 refine JJ.region rfl fun rg => ?_
 refine JJ.fieldAddr (a' := ⟨b1, 3, none⟩) fo35_3 rg rfl rfl rfl rfl ?_
 refine JJ.loadL (v := .slice (A) (x.e.length) (cp)) ty33 1 rg rfl rfl rfl rfl rfl ?_
 (try dsimp only [List.set])
 refine JJ.call (Lc := []) (Lr := [_, _]) bo38 rg rfl rfl rfl rfl (each_Expr k _ A x.e.length cp x.e (OE 53 k) 35 [] [] (fun _ _ _ => OE.len) (by omega) hx bo35 fun I1 _ cs d hd hr => clonedExpr k I1 cs d hr (by have := Ex.szl_mem hd; omega)) (fun _ q => q) fun ⟨A5, cp5⟩ I3 hle4 _ => ?_
 dsimp only [List.cons_append, List.nil_append]
 replace hx := hx.mono hle4
 replace hx1 := hx1.mono hle4
 replace hx2 := hx2.mono hle4
 refine JJ.fieldAddr (a' := ⟨b1, 3, none⟩) fo35_3 rg rfl rfl rfl rfl ?_
 refine JJ.store (cs' := [.int .i64 (x.op), .string (x.s), .int .i64 (x.n), .slice (A5) (x.e.length) (cp5), .slice (A1) (x.body.length) (cp1), .slice (A2) (x.els.length) (cp2), .bool (x.commit)]) ty33 2 rg rfl rfl rfl rfl rfl rfl rfl rfl rfl rfl rfl ?_
 refine JJ.regionEnd ?_
 refine JJ.seq ?_
 refine JJ.region rfl fun rg => ?_
 refine JJ.fieldAddr (a' := ⟨b1, 4, none⟩) fo35_4 rg rfl rfl rfl rfl ?_
 refine JJ.loadL (v := .slice (A1) (x.body.length) (cp1)) ty23 2 rg rfl rfl rfl rfl rfl ?_
 (try dsimp only [List.set])
 refine JJ.call (Lc := []) (Lr := [_, _, _]) bo32 rg rfl rfl rfl rfl (each_Stmt k _ A1 x.body.length cp1 x.body (OT 53 35 k) 19 [] [] (fun _ _ _ => OT.len) (by omega) hx1 bo19 fun I1 _ cs d hd hr => ih I1 cs d hr (by have := St.szl_mem hd; omega)) (fun _ q => q) fun ⟨A6, cp6⟩ I5 hle6 _ => ?_
 dsimp only [List.cons_append, List.nil_append]
 replace hx := hx.mono hle6
 replace hx1 := hx1.mono hle6
 replace hx2 := hx2.mono hle6
 refine JJ.fieldAddr (a' := ⟨b1, 4, none⟩) fo35_4 rg rfl rfl rfl rfl ?_
 refine JJ.store (cs' := [.int .i64 (x.op), .string (x.s), .int .i64 (x.n), .slice (A5) (x.e.length) (cp5), .slice (A6) (x.body.length) (cp6), .slice (A2) (x.els.length) (cp2), .bool (x.commit)]) ty23 3 rg rfl rfl rfl rfl rfl rfl rfl rfl rfl rfl rfl ?_
 refine JJ.regionEnd ?_
 refine JJ.seq ?_
 refine JJ.region rfl fun rg => ?_
 refine JJ.fieldAddr (a' := ⟨b1, 5, none⟩) fo35_5 rg rfl rfl rfl rfl ?_
 refine JJ.loadL (v := .slice (A2) (x.els.length) (cp2)) ty23 3 rg rfl rfl rfl rfl rfl ?_
 (try dsimp only [List.set])
 refine JJ.call (Lc := []) (Lr := [_, _, _, _]) bo32 rg rfl rfl rfl rfl (each_Stmt k _ A2 x.els.length cp2 x.els (OT 53 35 k) 19 [] [] (fun _ _ _ => OT.len) (by omega) hx2 bo19 fun I1 _ cs d hd hr => ih I1 cs d hr (by have := St.szl_mem hd; omega)) (fun _ q => q) fun ⟨A7, cp7⟩ I7 hle8 _ => ?_
 dsimp only [List.cons_append, List.nil_append]
 replace hx := hx.mono hle8
 replace hx1 := hx1.mono hle8
 replace hx2 := hx2.mono hle8
 refine JJ.fieldAddr (a' := ⟨b1, 5, none⟩) fo35_5 rg rfl rfl rfl rfl ?_
 refine JJ.store (cs' := [.int .i64 (x.op), .string (x.s), .int .i64 (x.n), .slice (A5) (x.e.length) (cp5), .slice (A6) (x.body.length) (cp6), .slice (A7) (x.els.length) (cp7), .bool (x.commit)]) ty23 4 rg rfl rfl rfl rfl rfl rfl rfl rfl rfl rfl rfl ?_
 refine JJ.regionEnd ?_
 refine JJ.seq ?_
 refine JJ.region rfl fun rg => ?_
 refine JJ.loadL (v := .agg #[.int .i64 (x.op), .string (x.s), .int .i64 (x.n), .slice (A5) (x.e.length) (cp5), .slice (A6) (x.body.length) (cp6), .slice (A7) (x.els.length) (cp7), .bool (x.commit)]) ty35 4 rg rfl rfl rfl rfl rfl ?_
 refine JJ.store (cs' := [.int .i64 (x.op), .string (x.s), .int .i64 (x.n), .slice (A5) (x.e.length) (cp5), .slice (A6) (x.body.length) (cp6), .slice (A7) (x.els.length) (cp7), .bool (x.commit)]) ty35 3 rg rfl rfl rfl rfl rfl rfl rfl rfl rfl rfl rfl ?_
 refine JJ.regionEnd ?_
 refine JJ.pull 3 rfl rfl ?_
 refine JJ.pull 1 rfl rfl ?_
 refine JJ.pull 2 rfl rfl ?_
 refine JJ.pull 3 rfl rfl ?_
 refine JJ.retc (v := .agg #[.int .i64 (x.op), .string (x.s), .int .i64 (x.n), .slice (A5) (x.e.length) (cp5), .slice (A6) (x.body.length) (cp6), .slice (A7) (x.els.length) (cp7), .bool (x.commit)]) ty35 3 rfl Try.func19 rfl rfl rfl rfl (fun h q => ⟨[_, _, _, _, _, _, _], trivial, rfl, ?_⟩)
 exact ⟨h, fun _ => none, .refl _, fun _ _ x => (by cases x), fun _ => .inr rfl, ⟨A5, cp5, A6, cp6, A7, cp7, rfl, Sat.sub (.cons_cons _ (.cons_cons _ (.cons_cons _ (.cons _ (List.nil_sublist _))))) q⟩, trivial⟩
theorem clone1 (k : Nat) (I : Hp) (cs : List Value) (x : Pc) (hre : RPc k I cs x) (hsz : x.sz ≤ 4294967296) : Fn Try.prog 31 #[.agg cs.toArray] I [] (Ret (X := List Value) (fun _ _ => True) (fun cs' => .agg cs'.toArray) fun cs' => [OP 53 35 k cs' x]) := by
 obtain ⟨A, m, cp, rfl, hx⟩ := hre
 have hz : x.sz = St.szl x.body + 1 := rfl
 obtain rfl := hx.1
 have hll := St.szl_len x.body
 refine Fn.of (args := [_]) Try.func31 rfl rfl ?_
 refine JJ.seq ?_
 refine JJ.region rfl fun rg => ?_
 refine JJ.box (cs := [.string (x.name), .slice (A) (x.body.length) (cp)]) rg rfl rfl rfl rfl fun b1 => ?_
 refine JJ.alloc (cs := [.string (⟨#[]⟩), .slice (none) (0) (0)]) zo44 rfl rg rfl rfl fun b2 => ?_
 refine JJ.regionEnd ?_
 refine JJ.seq ?_
 refine JJ.drawR (m := 5) [(1, .pointer (some ⟨b1, 0, none⟩)), (2, .pointer (some ⟨b2, 0, none⟩))]
  (R := fun i v => match i with | 4 => fun h => ∃ A cp, v = .slice A (x.body.length) cp ∧ (OSl (OT 53 35 k) 35 7 A x.body.length cp x.body) h | _ => fun _ => True)
  (fun i => match i with | 0 => fun _ v => v = .pointer (some ⟨b1, 0, none⟩) | 1 => fun _ v => v = .string (x.name) | 2 => fun _ v => v = .pointer (some ⟨b1, 1, none⟩) | 3 => fun _ v => v = .slice (A) (x.body.length) (cp) | 4 => fun _ _ => True | _ => fun _ _ => False) mx rfl rfl ?_ (by repeat (first | exact trivial | refine ⟨rfl, ?_⟩)) (fun rg => ?_) (fun rg => ?_)
 ·
  rintro (_ | _ | _ | _ | _ | i) I1_ I2_ v l h
  · exact h
  · exact h
  · exact h
  · exact h
  · trivial
  · exact h
 ·
  refine ⟨?_, ?_, ?_, ?_, ?_, trivial⟩
  ·
   intro F_ is E2 I2_ hle_ hb hd kk_
   replace kk_ := fun v I2 l s => JJ.res (fun _ q => Sat.pure (p := True) trivial q) (kk_ v I2 l s)
   obtain ⟨hb1, hb2, -⟩ := hb
   refine JJ.fieldAddr (a' := ⟨b1, 0, none⟩) fo44_0 rg rfl rfl hb1 rfl (kk_ _ _ (.refl _) rfl)
  ·
   intro F_ is E2 I2_ hle_ hb hd kk_
   replace kk_ := fun v I2 l s => JJ.res (fun _ q => Sat.pure (p := True) trivial q) (kk_ v I2 l s)
   obtain ⟨hb1, hb2, -⟩ := hb
   obtain ⟨d0, v0, e0, g0, s0⟩ := hd 0 (by decide)
   cases e0
   subst s0
   refine JJ.loadL (v := .string (x.name)) ty9 1 rg rfl rfl g0 rfl rfl (kk_ _ _ (.refl _) rfl)
  ·
   intro F_ is E2 I2_ hle_ hb hd kk_
   replace kk_ := fun v I2 l s => JJ.res (fun _ q => Sat.pure (p := True) trivial q) (kk_ v I2 l s)
   obtain ⟨hb1, hb2, -⟩ := hb
   refine JJ.fieldAddr (a' := ⟨b1, 1, none⟩) fo44_1 rg rfl rfl hb1 rfl (kk_ _ _ (.refl _) rfl)
  ·
   intro F_ is E2 I2_ hle_ hb hd kk_
   replace kk_ := fun v I2 l s => JJ.res (fun _ q => Sat.pure (p := True) trivial q) (kk_ v I2 l s)
   obtain ⟨hb1, hb2, -⟩ := hb
   obtain ⟨d2, v2, e2, g2, s2⟩ := hd 2 (by decide)
   cases e2
   subst s2
   refine JJ.loadL (v := .slice (A) (x.body.length) (cp)) ty23 1 rg rfl rfl g2 rfl rfl (kk_ _ _ (.refl _) rfl)
  ·
   intro F_ is E2 I2_ hle_ hb hd kk_
   obtain ⟨hb1, hb2, -⟩ := hb
   obtain ⟨d3, v3, e3, g3, s3⟩ := hd 3 (by decide)
   cases e3
   subst s3
   refine JJ.call (Lc := []) (Lr := _) bo32 rg rfl rfl rfl (evL_cons g3 (evL_cons rfl rfl)) (each_Stmt k _ A x.body.length cp x.body (OT 53 35 k) 19 [] [] (fun _ _ _ => OT.len) (by omega) (hx.mono hle_) bo19 fun I1 _ cs d hd hr => cloned k I1 cs d hr (by have := St.szl_mem hd; omega)) (fun _ q => q) fun ⟨A9, cp9⟩ I9 hle9 _ => ?_
   refine JJ.res (fun h q => ?_) (kk_ _ _ hle9 trivial)
   exact let ⟨h1, h2, a, b, c, d, e⟩ := q; ⟨h1, h2, a, b, c, ⟨A9, cp9, rfl, d⟩, e⟩
 intro vs I4 hle3 hs_
 obtain ⟨hv0, hv1, hv2, hv3, hv4, -⟩ := hs_
 refine JJ.res (fun h q => Sat.sub (List.Sublist.cons_cons _ (List.Sublist.cons_cons _ (List.Sublist.cons _ (List.Sublist.cons _ (List.Sublist.cons _ (List.Sublist.cons _ (List.Sublist.cons_cons _ (List.Sublist.refl [])))))))) q) ?_
 refine JJ.pull 2 rfl rfl ?_
 refine JJ.exS fun A1 cp1 hv4 => ?_
 refine JJ.keep [(2, .pointer (some ⟨b2, 0, none⟩)), (4, .string (x.name)), (7, .slice (A1) (x.body.length) (cp1))] ⟨rfl, congrArg some hv1, congrArg some hv4, trivial⟩ ?_
 refine JJ.build (cells := #[.string (x.name), .slice (A1) (x.body.length) (cp1)]) zo44 so44 rg rfl rfl rfl rfl ?_
 refine JJ.store (cs' := [.string (x.name), .slice (A1) (x.body.length) (cp1)]) ty44 1 rg rfl rfl rfl rfl rfl rfl rfl rfl rfl rfl rfl ?_
 refine JJ.regionEnd ?_
 refine JJ.pull 1 rfl rfl ?_
 refine JJ.pull 1 rfl rfl ?_
 refine JJ.retc (v := .agg #[.string (x.name), .slice (A1) (x.body.length) (cp1)]) ty44 1 rfl Try.func31 rfl rfl rfl rfl (fun h q => ⟨[_, _], trivial, rfl, ?_⟩)
 exact let ⟨h1, h2, a, _, _, o1, _⟩ := q; ⟨h1, h2, a, by assumption, by assumption, ⟨A1, cp1, rfl, o1⟩, trivial⟩
theorem JJ.exO {te k : Nat} {cs : List Value} {x : Ex} {c : Cx} {K : List Item} {E : List (Nat × Value)} {D : List Deferred} {I : Hp} {L : List HP} (h : ∀ A cp, cs = [.int .i64 x.op, .int .i64 x.n, .string x.s, .slice A x.x.length cp] → JJ c K E D I (OSl (OE te k) te 4 A x.x.length cp x.x :: L)) : JJ c K E D I (OE te (k + 1) cs x :: L) :=
  fun a w hh kk hE ⟨h1, h2, l1, l2, d, ⟨A, cp, he, ho⟩, hL⟩ hR => h A cp he a w hh kk hE ⟨h1, h2, l1, l2, d, ho, hL⟩ hR
theorem OSl.moreE {te e k A n cp} {ds : List Ex} {h : Hp} (s : OSl (OE te k) e 4 A n cp ds h) : OSl (OE te (k + 1)) e 4 A n cp ds h := s.imp fun _ _ _ _ r => r.more (by omega)
theorem clone2 (k : Nat) (I : Hp) (cs : List Value) (x : Oc) (hre : ROc k I cs x) (hsz : x.sz ≤ 4294967296) : Fn Try.prog 34 #[.agg cs.toArray] I [] (Ret (X := List Value) (fun _ _ => True) (fun cs' => .agg cs'.toArray) fun cs' => [OO 53 k cs' x]) := by
 cases k with
 | zero => obtain ⟨_, _, _, _, hx⟩ := hre; exact hx.elim
 | succ k =>
 obtain ⟨A, m, cp, rfl, hx⟩ := hre
 have hz : x.sz = x.e.sz + 1 := rfl
 refine Fn.of (args := [_]) Try.func34 rfl rfl ?_
 refine JJ.seq ?_
 refine JJ.region rfl fun rg => ?_
 refine JJ.box (cs := [.string (x.name), .int .i64 (x.e.op), .int .i64 (x.e.n), .string (x.e.s), .slice (A) (m) (cp)]) rg rfl rfl rfl rfl fun b1 => ?_
 refine JJ.alloc (cs := [.string (⟨#[]⟩), .int .i64 0, .int .i64 0, .string (⟨#[]⟩), .slice (none) (0) (0)]) zo55 rfl rg rfl rfl fun b2 => ?_
 refine JJ.regionEnd ?_
 refine JJ.seq ?_
 refine JJ.drawR (m := 5) [(1, .pointer (some ⟨b1, 0, none⟩)), (2, .pointer (some ⟨b2, 0, none⟩))]
  (R := fun i v => match i with | 4 => fun h => ∃ cs, v = .agg cs.toArray ∧ (OE 53 (k + 1) cs x.e) h | _ => fun _ => True)
  (fun i => match i with | 0 => fun _ v => v = .pointer (some ⟨b1, 0, none⟩) | 1 => fun _ v => v = .string (x.name) | 2 => fun _ v => v = .pointer (some ⟨b1, 1, none⟩) | 3 => fun _ v => v = .agg #[.int .i64 (x.e.op), .int .i64 (x.e.n), .string (x.e.s), .slice (A) (m) (cp)] | 4 => fun _ _ => True | _ => fun _ _ => False) mx rfl rfl ?_ (by repeat (first | exact trivial | refine ⟨rfl, ?_⟩)) (fun rg => ?_) (fun rg => ?_)
 ·
  rintro (_ | _ | _ | _ | _ | i) I1_ I2_ v l h
  · exact h
  · exact h
  · exact h
  · exact h
  · trivial
  · exact h
 ·
  refine ⟨?_, ?_, ?_, ?_, ?_, trivial⟩
  ·
   intro F_ is E2 I2_ hle_ hb hd kk_
   replace kk_ := fun v I2 l s => JJ.res (fun _ q => Sat.pure (p := True) trivial q) (kk_ v I2 l s)
   obtain ⟨hb1, hb2, -⟩ := hb
   refine JJ.fieldAddr (a' := ⟨b1, 0, none⟩) fo55_0 rg rfl rfl hb1 rfl (kk_ _ _ (.refl _) rfl)
  ·
   intro F_ is E2 I2_ hle_ hb hd kk_
   replace kk_ := fun v I2 l s => JJ.res (fun _ q => Sat.pure (p := True) trivial q) (kk_ v I2 l s)
   obtain ⟨hb1, hb2, -⟩ := hb
   obtain ⟨d0, v0, e0, g0, s0⟩ := hd 0 (by decide)
   cases e0
   subst s0
   refine JJ.loadL (v := .string (x.name)) ty9 1 rg rfl rfl g0 rfl rfl (kk_ _ _ (.refl _) rfl)
  ·
   intro F_ is E2 I2_ hle_ hb hd kk_
   replace kk_ := fun v I2 l s => JJ.res (fun _ q => Sat.pure (p := True) trivial q) (kk_ v I2 l s)
   obtain ⟨hb1, hb2, -⟩ := hb
   refine JJ.fieldAddr (a' := ⟨b1, 1, none⟩) fo55_1 rg rfl rfl hb1 rfl (kk_ _ _ (.refl _) rfl)
  ·
   intro F_ is E2 I2_ hle_ hb hd kk_
   replace kk_ := fun v I2 l s => JJ.res (fun _ q => Sat.pure (p := True) trivial q) (kk_ v I2 l s)
   obtain ⟨hb1, hb2, -⟩ := hb
   obtain ⟨d2, v2, e2, g2, s2⟩ := hd 2 (by decide)
   cases e2
   subst s2
   refine JJ.loadL (v := .agg #[.int .i64 (x.e.op), .int .i64 (x.e.n), .string (x.e.s), .slice (A) (m) (cp)]) ty53 1 rg rfl rfl g2 rfl rfl (kk_ _ _ (.refl _) rfl)
  ·
   intro F_ is E2 I2_ hle_ hb hd kk_
   obtain ⟨hb1, hb2, -⟩ := hb
   obtain ⟨d3, v3, e3, g3, s3⟩ := hd 3 (by decide)
   cases e3
   subst s3
   refine JJ.call (Lc := []) (Lr := _) bo35 rg rfl rfl rfl (evL_cons g3 rfl) (clonedExpr (k + 1) _ _ x.e (RE.mono hle_ hx) (by omega)) (fun _ q => q) fun cs9 I9 hle9 _ => ?_
   refine JJ.res (fun h q => ?_) (kk_ _ _ hle9 trivial)
   exact let ⟨h1, h2, a, b, c, d, e⟩ := q; ⟨h1, h2, a, b, c, ⟨cs9, rfl, d⟩, e⟩
 intro vs I4 hle3 hs_
 obtain ⟨hv0, hv1, hv2, hv3, hv4, -⟩ := hs_
 refine JJ.res (fun h q => Sat.sub (List.Sublist.cons_cons _ (List.Sublist.cons_cons _ (List.Sublist.cons _ (List.Sublist.cons _ (List.Sublist.cons _ (List.Sublist.cons _ (List.Sublist.cons_cons _ (List.Sublist.refl [])))))))) q) ?_
 refine JJ.pull 2 rfl rfl ?_
 refine JJ.exA fun cs1 hv4 => ?_
 refine JJ.exO fun A1 cp1 hcs1 => ?_
 subst hcs1
 refine JJ.keep [(2, .pointer (some ⟨b2, 0, none⟩)), (4, .string (x.name)), (7, .agg #[.int .i64 (x.e.op), .int .i64 (x.e.n), .string (x.e.s), .slice (A1) (x.e.x.length) (cp1)])] ⟨rfl, congrArg some hv1, congrArg some hv4, trivial⟩ ?_
 refine JJ.build (cells := #[.string (x.name), .int .i64 (x.e.op), .int .i64 (x.e.n), .string (x.e.s), .slice (A1) (x.e.x.length) (cp1)]) zo55 so55 rg rfl rfl rfl rfl ?_
 refine JJ.store (cs' := [.string (x.name), .int .i64 (x.e.op), .int .i64 (x.e.n), .string (x.e.s), .slice (A1) (x.e.x.length) (cp1)]) ty55 1 rg rfl rfl rfl rfl rfl rfl rfl rfl rfl rfl rfl ?_
 refine JJ.regionEnd ?_
 refine JJ.pull 1 rfl rfl ?_
 refine JJ.pull 1 rfl rfl ?_
 refine JJ.retc (v := .agg #[.string (x.name), .int .i64 (x.e.op), .int .i64 (x.e.n), .string (x.e.s), .slice (A1) (x.e.x.length) (cp1)]) ty55 1 rfl Try.func34 rfl rfl rfl rfl (fun h q => ⟨[_, _, _, _, _], trivial, rfl, ?_⟩)
 exact let ⟨h1, h2, a, _, _, o1, _⟩ := q; ⟨h1, h2, a, by assumption, by assumption, ⟨A1, cp1, rfl, OSl.moreE o1⟩, trivial⟩
/-- A program of one's own. -/
def OPg (k : Nat) (cs : List Value) (x : Pg) : HP := fun h => ∃ A1 cp1 A2 cp2 A3 cp3 A4 cp4, cs = [.slice A1 x.procs.length cp1, .slice A2 x.main.length cp2, .slice A3 x.recover.length cp3, .slice A4 x.oracles.length cp4] ∧ Sat [OSl (OP 53 35 k) 44 2 A1 x.procs.length cp1 x.procs, OSl (OT 53 35 k) 35 7 A2 x.main.length cp2 x.main, OSl (OT 53 35 k) 35 7 A3 x.recover.length cp3 x.recover, OSl (OO 53 k) 55 5 A4 x.oracles.length cp4 x.oracles] h
theorem Clone (k : Nat) (I : Hp) (cs : List Value) (x : Pg) (hre : RPg k I cs x) (hsz : x.sz ≤ 4294967296) : Fn Try.prog 14 #[.agg cs.toArray] I [] (Ret (X := List Value) (fun _ _ => True) (fun cs' => .agg cs'.toArray) fun cs' => [OPg k cs' x]) := by
 obtain ⟨A1, m, cp1, A2, m1, cp2, A3, m2, cp3, A4, m3, cp4, rfl, hx1, hx2, hx3, hx4⟩ := hre
 have hz : x.sz = Pc.szl x.procs + St.szl x.main + St.szl x.recover + Oc.szl x.oracles := rfl
 obtain rfl := hx1.1
 obtain rfl := hx2.1
 obtain rfl := hx3.1
 obtain rfl := hx4.1
 have hll1 := Pc.szl_len x.procs
 have hll2 := St.szl_len x.main
 have hll3 := St.szl_len x.recover
 have hll4 := Oc.szl_len x.oracles
 change RPcs k I A1 x.procs.length cp1 x.procs at hx1
 change ROcs k I A4 x.oracles.length cp4 x.oracles at hx4
 refine Fn.of (args := [_]) Try.func14 rfl rfl ?_
 refine JJ.seq ?_
 refine JJ.region rfl fun rg => ?_
 refine JJ.box (cs := [.slice (A1) (x.procs.length) (cp1), .slice (A2) (x.main.length) (cp2), .slice (A3) (x.recover.length) (cp3), .slice (A4) (x.oracles.length) (cp4)]) rg rfl rfl rfl rfl fun b1 => ?_
 refine JJ.alloc (cs := [.slice (none) (0) (0), .slice (none) (0) (0), .slice (none) (0) (0), .slice (none) (0) (0)]) zo26 rfl rg rfl rfl fun b2 => ?_
 refine JJ.regionEnd ?_
 refine JJ.seq ?_
 refine JJ.drawR (m := 12) [(1, .pointer (some ⟨b1, 0, none⟩)), (2, .pointer (some ⟨b2, 0, none⟩))]
  (R := fun i v => match i with | 2 => fun h => ∃ A cp, v = .slice A (x.procs.length) cp ∧ (OSl (OP 53 35 k) 44 2 A x.procs.length cp x.procs) h | 5 => fun h => ∃ A cp, v = .slice A (x.main.length) cp ∧ (OSl (OT 53 35 k) 35 7 A x.main.length cp x.main) h | 8 => fun h => ∃ A cp, v = .slice A (x.recover.length) cp ∧ (OSl (OT 53 35 k) 35 7 A x.recover.length cp x.recover) h | 11 => fun h => ∃ A cp, v = .slice A (x.oracles.length) cp ∧ (OSl (OO 53 k) 55 5 A x.oracles.length cp x.oracles) h | _ => fun _ => True)
  (fun i => match i with | 0 => fun _ v => v = .pointer (some ⟨b1, 0, none⟩) | 1 => fun _ v => v = .slice (A1) (x.procs.length) (cp1) | 2 => fun _ _ => True | 3 => fun _ v => v = .pointer (some ⟨b1, 1, none⟩) | 4 => fun _ v => v = .slice (A2) (x.main.length) (cp2) | 5 => fun _ _ => True | 6 => fun _ v => v = .pointer (some ⟨b1, 2, none⟩) | 7 => fun _ v => v = .slice (A3) (x.recover.length) (cp3) | 8 => fun _ _ => True | 9 => fun _ v => v = .pointer (some ⟨b1, 3, none⟩) | 10 => fun _ v => v = .slice (A4) (x.oracles.length) (cp4) | 11 => fun _ _ => True | _ => fun _ _ => False) mx rfl rfl ?_ (by repeat (first | exact trivial | refine ⟨rfl, ?_⟩)) (fun rg => ?_) (fun rg => ?_)
 ·
  rintro (_ | _ | _ | _ | _ | _ | _ | _ | _ | _ | _ | _ | i) I1_ I2_ v l h
  · exact h
  · exact h
  · trivial
  · exact h
  · exact h
  · trivial
  · exact h
  · exact h
  · trivial
  · exact h
  · exact h
  · trivial
  · exact h
 ·
  refine ⟨?_, ?_, ?_, ?_, ?_, ?_, ?_, ?_, ?_, ?_, ?_, ?_, trivial⟩
  ·
   intro F_ is E2 I2_ hle_ hb hd kk_
   replace kk_ := fun v I2 l s => JJ.res (fun _ q => Sat.pure (p := True) trivial q) (kk_ v I2 l s)
   obtain ⟨hb1, hb2, -⟩ := hb
   refine JJ.fieldAddr (a' := ⟨b1, 0, none⟩) fo26_0 rg rfl rfl hb1 rfl (kk_ _ _ (.refl _) rfl)
  ·
   intro F_ is E2 I2_ hle_ hb hd kk_
   replace kk_ := fun v I2 l s => JJ.res (fun _ q => Sat.pure (p := True) trivial q) (kk_ v I2 l s)
   obtain ⟨hb1, hb2, -⟩ := hb
   obtain ⟨d0, v0, e0, g0, s0⟩ := hd 0 (by decide)
   cases e0
   subst s0
   refine JJ.loadL (v := .slice (A1) (x.procs.length) (cp1)) ty22 1 rg rfl rfl g0 rfl rfl (kk_ _ _ (.refl _) rfl)
  ·
   intro F_ is E2 I2_ hle_ hb hd kk_
   obtain ⟨hb1, hb2, -⟩ := hb
   obtain ⟨d1, v1, e1, g1, s1⟩ := hd 1 (by decide)
   cases e1
   subst s1
   refine JJ.call (Lc := []) (Lr := _) bo30 rg rfl rfl rfl (evL_cons g1 (evL_cons rfl rfl)) (each_Proc k _ A1 x.procs.length cp1 x.procs (OP 53 35 k) 31 [] [] (fun _ _ _ => OP.len) (by omega) (hx1.mono hle_) bo31 fun I1 _ cs d hd hr => clone1 k I1 cs d hr (by have := Pc.szl_mem hd; omega)) (fun _ q => q) fun ⟨A9, cp9⟩ I9 hle9 _ => ?_
   refine JJ.res (fun h q => ?_) (kk_ _ _ hle9 trivial)
   exact let ⟨h1, h2, a, b, c, d, e⟩ := q; ⟨h1, h2, a, b, c, ⟨A9, cp9, rfl, d⟩, e⟩
  ·
   intro F_ is E2 I2_ hle_ hb hd kk_
   replace kk_ := fun v I2 l s => JJ.res (fun _ q => Sat.pure (p := True) trivial q) (kk_ v I2 l s)
   obtain ⟨hb1, hb2, -⟩ := hb
   refine JJ.fieldAddr (a' := ⟨b1, 1, none⟩) fo26_1 rg rfl rfl hb1 rfl (kk_ _ _ (.refl _) rfl)
  ·
   intro F_ is E2 I2_ hle_ hb hd kk_
   replace kk_ := fun v I2 l s => JJ.res (fun _ q => Sat.pure (p := True) trivial q) (kk_ v I2 l s)
   obtain ⟨hb1, hb2, -⟩ := hb
   obtain ⟨d3, v3, e3, g3, s3⟩ := hd 3 (by decide)
   cases e3
   subst s3
   refine JJ.loadL (v := .slice (A2) (x.main.length) (cp2)) ty23 1 rg rfl rfl g3 rfl rfl (kk_ _ _ (.refl _) rfl)
  ·
   intro F_ is E2 I2_ hle_ hb hd kk_
   obtain ⟨hb1, hb2, -⟩ := hb
   obtain ⟨d2, v2, e2, g2, s2⟩ := hd 2 (by decide)
   cases e2
   obtain ⟨d4, v4, e4, g4, s4⟩ := hd 4 (by decide)
   cases e4
   subst s4
   refine JJ.call (Lc := []) (Lr := _) bo32 rg rfl rfl rfl (evL_cons g4 (evL_cons rfl rfl)) (each_Stmt k _ A2 x.main.length cp2 x.main (OT 53 35 k) 19 [] [] (fun _ _ _ => OT.len) (by omega) (hx2.mono hle_) bo19 fun I1 _ cs d hd hr => cloned k I1 cs d hr (by have := St.szl_mem hd; omega)) (fun _ q => q) fun ⟨A9, cp9⟩ I9 hle9 _ => ?_
   refine JJ.res (fun h q => ?_) (kk_ _ _ hle9 trivial)
   exact let ⟨h1, h2, a, b, c, d, e⟩ := q; ⟨h1, h2, a, b, c, ⟨A9, cp9, rfl, d⟩, e⟩
  ·
   intro F_ is E2 I2_ hle_ hb hd kk_
   replace kk_ := fun v I2 l s => JJ.res (fun _ q => Sat.pure (p := True) trivial q) (kk_ v I2 l s)
   obtain ⟨hb1, hb2, -⟩ := hb
   refine JJ.fieldAddr (a' := ⟨b1, 2, none⟩) fo26_2 rg rfl rfl hb1 rfl (kk_ _ _ (.refl _) rfl)
  ·
   intro F_ is E2 I2_ hle_ hb hd kk_
   replace kk_ := fun v I2 l s => JJ.res (fun _ q => Sat.pure (p := True) trivial q) (kk_ v I2 l s)
   obtain ⟨hb1, hb2, -⟩ := hb
   obtain ⟨d6, v6, e6, g6, s6⟩ := hd 6 (by decide)
   cases e6
   subst s6
   refine JJ.loadL (v := .slice (A3) (x.recover.length) (cp3)) ty23 1 rg rfl rfl g6 rfl rfl (kk_ _ _ (.refl _) rfl)
  ·
   intro F_ is E2 I2_ hle_ hb hd kk_
   obtain ⟨hb1, hb2, -⟩ := hb
   obtain ⟨d5, v5, e5, g5, s5⟩ := hd 5 (by decide)
   cases e5
   obtain ⟨d7, v7, e7, g7, s7⟩ := hd 7 (by decide)
   cases e7
   subst s7
   refine JJ.call (Lc := []) (Lr := _) bo32 rg rfl rfl rfl (evL_cons g7 (evL_cons rfl rfl)) (each_Stmt k _ A3 x.recover.length cp3 x.recover (OT 53 35 k) 19 [] [] (fun _ _ _ => OT.len) (by omega) (hx3.mono hle_) bo19 fun I1 _ cs d hd hr => cloned k I1 cs d hr (by have := St.szl_mem hd; omega)) (fun _ q => q) fun ⟨A9, cp9⟩ I9 hle9 _ => ?_
   refine JJ.res (fun h q => ?_) (kk_ _ _ hle9 trivial)
   exact let ⟨h1, h2, a, b, c, d, e⟩ := q; ⟨h1, h2, a, b, c, ⟨A9, cp9, rfl, d⟩, e⟩
  ·
   intro F_ is E2 I2_ hle_ hb hd kk_
   replace kk_ := fun v I2 l s => JJ.res (fun _ q => Sat.pure (p := True) trivial q) (kk_ v I2 l s)
   obtain ⟨hb1, hb2, -⟩ := hb
   refine JJ.fieldAddr (a' := ⟨b1, 3, none⟩) fo26_3 rg rfl rfl hb1 rfl (kk_ _ _ (.refl _) rfl)
  ·
   intro F_ is E2 I2_ hle_ hb hd kk_
   replace kk_ := fun v I2 l s => JJ.res (fun _ q => Sat.pure (p := True) trivial q) (kk_ v I2 l s)
   obtain ⟨hb1, hb2, -⟩ := hb
   obtain ⟨d9, v9, e9, g9, s9⟩ := hd 9 (by decide)
   cases e9
   subst s9
   refine JJ.loadL (v := .slice (A4) (x.oracles.length) (cp4)) ty24 1 rg rfl rfl g9 rfl rfl (kk_ _ _ (.refl _) rfl)
  ·
   intro F_ is E2 I2_ hle_ hb hd kk_
   obtain ⟨hb1, hb2, -⟩ := hb
   obtain ⟨d8, v8, e8, g8, s8⟩ := hd 8 (by decide)
   cases e8
   obtain ⟨d10, v10, e10, g10, s10⟩ := hd 10 (by decide)
   cases e10
   subst s10
   refine JJ.call (Lc := []) (Lr := _) bo33 rg rfl rfl rfl (evL_cons g10 (evL_cons rfl rfl)) (each_Oracle k _ A4 x.oracles.length cp4 x.oracles (OO 53 k) 34 [] [] (fun _ _ _ => OO.len) (by omega) (hx4.mono hle_) bo34 fun I1 _ cs d hd hr => clone2 k I1 cs d hr (by have := Oc.szl_mem hd; omega)) (fun _ q => q) fun ⟨A9, cp9⟩ I9 hle9 _ => ?_
   refine JJ.res (fun h q => ?_) (kk_ _ _ hle9 trivial)
   exact let ⟨h1, h2, a, b, c, d, e⟩ := q; ⟨h1, h2, a, b, c, ⟨A9, cp9, rfl, d⟩, e⟩
 intro vs I4 hle3 hs_
 obtain ⟨hv0, hv1, hv2, hv3, hv4, hv5, hv6, hv7, hv8, hv9, hv10, hv11, -⟩ := hs_
 refine JJ.res (fun h q => Sat.sub (List.Sublist.cons_cons _ (List.Sublist.cons_cons _ (List.Sublist.cons _ (List.Sublist.cons _ (List.Sublist.cons_cons _ (List.Sublist.cons _ (List.Sublist.cons _ (List.Sublist.cons_cons _ (List.Sublist.cons _ (List.Sublist.cons _ (List.Sublist.cons_cons _ (List.Sublist.cons _ (List.Sublist.cons _ (List.Sublist.cons_cons _ (List.Sublist.refl []))))))))))))))) q) ?_
 refine JJ.pull 2 rfl rfl ?_
 refine JJ.exS fun A5 cp5 hv2 => ?_
 refine JJ.pull 3 rfl rfl ?_
 refine JJ.exS fun A6 cp6 hv5 => ?_
 refine JJ.pull 4 rfl rfl ?_
 refine JJ.exS fun A7 cp7 hv8 => ?_
 refine JJ.pull 5 rfl rfl ?_
 refine JJ.exS fun A8 cp8 hv11 => ?_
 refine JJ.keep [(2, .pointer (some ⟨b2, 0, none⟩)), (5, .slice (A5) (x.procs.length) (cp5)), (8, .slice (A6) (x.main.length) (cp6)), (11, .slice (A7) (x.recover.length) (cp7)), (14, .slice (A8) (x.oracles.length) (cp8))] ⟨rfl, congrArg some hv2, congrArg some hv5, congrArg some hv8, congrArg some hv11, trivial⟩ ?_
 refine JJ.build (cells := #[.slice (A5) (x.procs.length) (cp5), .slice (A6) (x.main.length) (cp6), .slice (A7) (x.recover.length) (cp7), .slice (A8) (x.oracles.length) (cp8)]) zo26 so26 rg rfl rfl rfl rfl ?_
 refine JJ.store (cs' := [.slice (A5) (x.procs.length) (cp5), .slice (A6) (x.main.length) (cp6), .slice (A7) (x.recover.length) (cp7), .slice (A8) (x.oracles.length) (cp8)]) ty26 4 rg rfl rfl rfl rfl rfl rfl rfl rfl rfl rfl rfl ?_
 refine JJ.regionEnd ?_
 refine JJ.pull 4 rfl rfl ?_
 refine JJ.pull 1 rfl rfl ?_
 refine JJ.pull 2 rfl rfl ?_
 refine JJ.pull 3 rfl rfl ?_
 refine JJ.pull 4 rfl rfl ?_
 refine JJ.retc (v := .agg #[.slice (A5) (x.procs.length) (cp5), .slice (A6) (x.main.length) (cp6), .slice (A7) (x.recover.length) (cp7), .slice (A8) (x.oracles.length) (cp8)]) ty26 4 rfl Try.func14 rfl rfl rfl rfl (fun h q => ⟨[_, _, _, _], trivial, rfl, ?_⟩)
 exact ⟨h, fun _ => none, .refl _, fun _ _ x => (by cases x), fun _ => .inr rfl, ⟨A5, cp5, A6, cp6, A7, cp7, A8, cp8, rfl, Sat.sub (.cons_cons _ (.cons_cons _ (.cons_cons _ (.cons_cons _ (.cons _ (List.nil_sublist _)))))) q⟩, trivial⟩
end Wo
end Go.Proofs.Ytlcdafeoionnhaa
