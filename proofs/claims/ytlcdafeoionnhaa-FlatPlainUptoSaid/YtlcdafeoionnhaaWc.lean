/- Walks of functions, printed by a program of this session (wip/tool/eng.py). -/
import Derived.Test.YtlcdafeoionnhaaProg
import Derived.Test.YtlcdafeoionnhaaSize
import Derived.Test.YtlcdafeoionnhaaWb
namespace Go.Proofs.Ytlcdafeoionnhaa
open Go
set_option linter.unusedVariables false
set_option linter.unusedSimpArgs false
namespace Wc
theorem bo47 : bodyOk Try.prog 47 = true := by kernel_rfl
theorem bo49 : bodyOk Try.prog 49 = true := by kernel_rfl
theorem bo62 : bodyOk Try.prog 62 = true := by kernel_rfl
theorem bo63 : bodyOk Try.prog 63 = true := by kernel_rfl
theorem bo64 : bodyOk Try.prog 64 = true := by kernel_rfl
theorem bo68 : bodyOk Try.prog 68 = true := by kernel_rfl
theorem bo69 : bodyOk Try.prog 69 = true := by kernel_rfl
theorem bo70 : bodyOk Try.prog 70 = true := by kernel_rfl
theorem bo78 : bodyOk Try.prog 78 = true := by kernel_rfl
theorem bo79 : bodyOk Try.prog 79 = true := by kernel_rfl
theorem eo22 : elemO Try.prog 22 = some (44, 2) := by kernel_rfl
theorem eo23 : elemO Try.prog 23 = some (35, 7) := by kernel_rfl
theorem eo24 : elemO Try.prog 24 = some (55, 5) := by kernel_rfl
theorem eo33 : elemO Try.prog 33 = some (53, 4) := by kernel_rfl
theorem eo57 : elemO Try.prog 57 = some (23, 1) := by kernel_rfl
theorem fo53_0 : fieldO Try.prog 53 0 = some 0 := by kernel_rfl
theorem fo53_1 : fieldO Try.prog 53 1 = some 1 := by kernel_rfl
theorem fo53_2 : fieldO Try.prog 53 2 = some 2 := by kernel_rfl
theorem fo53_3 : fieldO Try.prog 53 3 = some 3 := by kernel_rfl
theorem so53 : structO Try.prog 53 = some [(0, 1), (1, 1), (2, 1), (3, 1)] := by kernel_rfl
theorem ss22 : isSliceT Try.prog 22 = true := by kernel_rfl
theorem ss23 : isSliceT Try.prog 23 = true := by kernel_rfl
theorem ss24 : isSliceT Try.prog 24 = true := by kernel_rfl
theorem ss33 : isSliceT Try.prog 33 = true := by kernel_rfl
theorem ss57 : isSliceT Try.prog 57 = true := by kernel_rfl
theorem st9 : isStringT Try.prog 9 = true := by kernel_rfl
theorem ty2 : tyI Try.prog 2 = some (false, 1) := by kernel_rfl
theorem ty23 : tyI Try.prog 23 = some (false, 1) := by kernel_rfl
theorem ty3 : tyI Try.prog 3 = some (false, 1) := by kernel_rfl
theorem ty33 : tyI Try.prog 33 = some (false, 1) := by kernel_rfl
theorem ty35 : tyI Try.prog 35 = some (true, 7) := by kernel_rfl
theorem ty44 : tyI Try.prog 44 = some (true, 2) := by kernel_rfl
theorem ty53 : tyI Try.prog 53 = some (true, 4) := by kernel_rfl
theorem ty55 : tyI Try.prog 55 = some (true, 5) := by kernel_rfl
theorem ty9 : tyI Try.prog 9 = some (false, 1) := by kernel_rfl
theorem zo53 : zeroOf Try.prog 53 = some (.agg #[.int .i64 0, .int .i64 0, .string ⟨#[]⟩, .slice none 0 0]) := by kernel_rfl
open Wb
def idxL {α : Type} (F : α → Bool) (l : List α) : Int := match l.findIdx? F with | some i => i | none => -1
theorem idxL_yes {α : Type} {F : α → Bool} {l : List α} {j : Nat} {d : α} (hd : l[j]? = some d) (hpre : ∀ i d, i < j → l[i]? = some d → F d = false) (h : F d = true) : (j : Int) = idxL F l := by
  obtain ⟨hlt, rfl⟩ := List.getElem?_eq_some_iff.1 hd
  unfold idxL
  have : l.findIdx? F = some j := by
    rw [List.findIdx?_eq_some_iff_getElem]
    exact ⟨hlt, h, fun i hi => by have := hpre i _ hi (List.getElem?_eq_getElem (by omega)); simpa using this⟩
  rw [this]
theorem idxL_end {α : Type} {F : α → Bool} {l : List α} {j : Nat} (hj : ¬ j < l.length) (hpre : ∀ i d, i < j → l[i]? = some d → F d = false) : (-1 : Int) = idxL F l := by
  unfold idxL
  have : l.findIdx? F = none := by
    rw [List.findIdx?_eq_none_iff]
    intro b hb
    obtain ⟨i, hi, rfl⟩ := List.getElem_of_mem hb
    exact hpre i _ (by omega) (List.getElem?_eq_getElem hi)
  rw [this]
theorem all_any {α : Type} (F : α → Bool) (l : List α) : l.all F = !l.any (fun a => !F a) := by
  induction l with
  | nil => rfl
  | cons a l ih => rw [List.all_cons, List.any_cons, ih]; cases F a <;> simp
theorem idxL_any {α : Type} (F : α → Bool) (l : List α) : decide ((0 : Int) ≤ idxL F l) = l.any F := by
  unfold idxL
  cases h : l.findIdx? F with
  | none =>
    rw [List.findIdx?_eq_none_iff] at h
    have : l.any F = false := by rw [List.any_eq_false]; intro x hx; rw [h x hx]; simp
    rw [this]; rfl
  | some i =>
    obtain ⟨hi, hF, _⟩ := List.findIdx?_eq_some_iff_getElem.1 h
    have : l.any F = true := List.any_eq_true.2 ⟨_, List.getElem_mem hi, hF⟩
    rw [this]; simp
theorem indexFunc_Expr (I : Hp) (k : Nat) (A : Option Addr) (n cp : Nat) (ds : List Ex) (F : Ex → Bool) (g : Nat) (fs caps : List Value) (hn : ds.length ≤ 8589934592) (hl : REs k I A n cp ds) (hg : bodyOk Try.prog g = true)
  (hF : ∀ I1, I.le I1 → ∀ cs d, d ∈ ds → RE k I1 cs d → Fn Try.prog g (fs ++ [Value.agg cs.toArray] ++ caps).toArray I1 [] (RB (F d))) : Fn Try.prog 78 #[.slice (A) (n) (cp), .func (.func g) fs.toArray caps.toArray] I [] (RI (idxL F ds)) := by
 have hnn := hl.1
 refine Fn.of (args := [_, _]) Try.func78 rfl rfl ?_
 refine JJ.seq ?_
 refine JJ.region rfl fun rg => ?_
 refine JJ.assign rg rfl rfl rfl ?_
 refine JJ.regionEnd ?_
 refine JJ.seq ?_
 refine JJ.seq ?_
 refine JJ.region rfl fun rg => ?_
 refine JJ.move rg rfl rfl rfl ?_
 refine JJ.lenSlice ss33 rg rfl rfl rfl ?_
 refine JJ.move rg rfl rfl rfl ?_
 refine JJ.regionEnd ?_
 refine JJ.block ?_
 refine JJ.induct (X := Nat × Hp) (fun x => [(0, .slice A n cp), (1, .func (.func g) fs.toArray caps.toArray), (7, .int .i64 n), (8, .int .i64 x.1)]) (fun x => x.2) (fun x => [])
  (fun x => x.1 ≤ ds.length ∧ I.le x.2 ∧ ∀ i d, i < x.1 → ds[i]? = some d → F d = false) (fun x => ds.length - x.1) (0, I) ⟨Nat.zero_le _, .refl _, fun i d h => by omega⟩ (fun h => JJ.keep _ (by repeat (first | exact trivial | refine ⟨rfl, ?_⟩)) h) ?_
 rintro ⟨j, I1⟩ ⟨hj, hle, hpre⟩ ih
 dsimp only at hj hle hpre ih ⊢
 refine JJ.seq ?_
 refine JJ.region rfl fun rg => ?_
 refine JJ.bin rg rfl rfl rfl rfl rfl ?_
 refine JJ.regionEnd ?_
 refine JJ.seq ?_
 refine JJ.cond2 rfl (fun hc2 => ?_) (fun hc2 => ?_)
 ·
  have hc2b : (decide ((((j : Nat) : Int) : Int) < ((n : Nat) : Int))) = true := hc2
  replace hc2 := of_decide_eq_true hc2
  have hlt : j < ds.length := by omega
  obtain ⟨d, hd⟩ : ∃ d, ds[j]? = some d := ⟨_, List.getElem?_eq_getElem hlt⟩
  refine JJ.skip ?_
  refine JJ.seq ?_
  refine JJ.block ?_
  refine JJ.seq ?_
  refine JJ.region rfl fun rg => ?_
  refine JJ.move rg rfl rfl rfl ?_
  refine JJ.assign rg rfl rfl rfl ?_
  refine JJ.regionEnd ?_
  refine JJ.seq ?_
  refine JJ.region rfl fun rg => ?_
  refine JJ.move rg rfl rfl rfl ?_
  refine JJ.move rg rfl rfl rfl ?_
  refine JJ.move rg rfl rfl rfl ?_
  obtain ⟨a, cs, hA, hcap, hcl, hre, hrow⟩ := RSl.get (REs.mono hl hle) hd
  cases hA
  refine JJ.indexAddr (a' := a.add (j * 4)) eo33 rg rfl rfl rfl rfl (by omega) (by omega) rfl ?_
  refine JJ.loadI (v := .agg (cs).toArray) ty53 rg rfl rfl rfl hrow (ldV_all hcl) ?_
  refine JJ.callp hg rg rfl rfl rfl rfl (hF _ hle cs d (List.mem_of_getElem? hd) hre) fun _ I1 hle2 _ => ?_
  replace hle := hle.trans hle2
  refine JJ.regionEnd ?_
  refine JJ.cond2 rfl (fun hc4 => ?_) (fun hc4 => ?_)
  ·
   have hc4b : (F d) = true := hc4
   refine JJ.seq ?_
   refine JJ.region rfl fun rg => ?_
   refine JJ.move rg rfl rfl rfl ?_
   refine JJ.assign rg rfl rfl rfl ?_
   refine JJ.regionEnd ?_
   refine JJ.ret1 rfl Try.func78 rfl rfl (fun h h_ => ⟨(), trivial, congrArg (Value.int .i64) (idxL_yes hd hpre hc4), trivial⟩)
  ·
   have hc4b : (F d) = false := hc4
   refine JJ.skip ?_
   refine JJ.inBlock ?_
   refine JJ.region rfl fun rg => ?_
   refine JJ.binI (z := ((j + 1 : Nat) : Int)) rg rfl rfl rfl rfl rfl (wrap_to (by omega) (by omega) (by omega)) ?_
   refine JJ.move rg rfl rfl rfl ?_
   refine JJ.regionEnd ?_
   refine JJ.keep _ ?_ (ih (j + 1, _) ⟨hlt, hle, fun i e hi he => by rcases Nat.lt_succ_iff_lt_or_eq.1 hi with h | h; exact hpre i e h he; subst h; rw [hd] at he; cases he; exact hc4⟩ (by dsimp only; omega))
   exact ⟨rfl, rfl, rfl, rfl, trivial⟩
 ·
  have hc2b : (decide ((((j : Nat) : Int) : Int) < ((n : Nat) : Int))) = false := hc2
  replace hc2 := of_decide_eq_false hc2
  refine JJ.exit rfl ?_
  refine JJ.seq ?_
  refine JJ.region rfl fun rg => ?_
  refine JJ.assign rg rfl rfl rfl ?_
  refine JJ.regionEnd ?_
  refine JJ.ret1 rfl Try.func78 rfl rfl (fun h h_ => ⟨(), trivial, congrArg (Value.int .i64) (idxL_end (by omega) hpre), trivial⟩)
theorem containsFunc_Expr (I : Hp) (k : Nat) (A : Option Addr) (n cp : Nat) (ds : List Ex) (F : Ex → Bool) (g : Nat) (fs caps : List Value) (hn : ds.length ≤ 8589934592) (hl : REs k I A n cp ds) (hg : bodyOk Try.prog g = true)
  (hF : ∀ I1, I.le I1 → ∀ cs d, d ∈ ds → RE k I1 cs d → Fn Try.prog g (fs ++ [Value.agg cs.toArray] ++ caps).toArray I1 [] (RB (F d))) : Fn Try.prog 63 #[.slice (A) (n) (cp), .func (.func g) fs.toArray caps.toArray] I [] (RB (ds.any F)) := by
 refine Fn.of (args := [_, _]) Try.func63 rfl rfl ?_
 refine JJ.seq ?_
 refine JJ.region rfl fun rg => ?_
 refine JJ.assign rg rfl rfl rfl ?_
 refine JJ.regionEnd ?_
 refine JJ.seq ?_
 refine JJ.region rfl fun rg => ?_
 refine JJ.move rg rfl rfl rfl ?_
 refine JJ.move rg rfl rfl rfl ?_
 refine JJ.callp bo78 rg rfl rfl rfl rfl (indexFunc_Expr _ k A n cp ds F g fs caps hn hl hg hF) fun _ I1 hle2 _ => ?_
 refine JJ.bin rg rfl rfl rfl rfl rfl ?_
 refine JJ.assign rg rfl rfl rfl ?_
 refine JJ.regionEnd ?_
 refine JJ.ret1 rfl Try.func63 rfl rfl (fun h h_ => ⟨(), trivial, congrArg (Value.bool) (show (decide ((0 : Int) ≤ idxL F ds)) = (ds.any F) from by exact idxL_any F ds), trivial⟩)
theorem indexFunc_Stmt (I : Hp) (k : Nat) (A : Option Addr) (n cp : Nat) (ds : List St) (F : St → Bool) (g : Nat) (fs caps : List Value) (hn : ds.length ≤ 8589934592) (hl : RSs k I A n cp ds) (hg : bodyOk Try.prog g = true)
  (hF : ∀ I1, I.le I1 → ∀ cs d, d ∈ ds → RS k I1 cs d → Fn Try.prog g (fs ++ [Value.agg cs.toArray] ++ caps).toArray I1 [] (RB (F d))) : Fn Try.prog 79 #[.slice (A) (n) (cp), .func (.func g) fs.toArray caps.toArray] I [] (RI (idxL F ds)) := by
 have hnn := hl.1
 refine Fn.of (args := [_, _]) Try.func79 rfl rfl ?_
 refine JJ.seq ?_
 refine JJ.region rfl fun rg => ?_
 refine JJ.assign rg rfl rfl rfl ?_
 refine JJ.regionEnd ?_
 refine JJ.seq ?_
 refine JJ.seq ?_
 refine JJ.region rfl fun rg => ?_
 refine JJ.move rg rfl rfl rfl ?_
 refine JJ.lenSlice ss23 rg rfl rfl rfl ?_
 refine JJ.move rg rfl rfl rfl ?_
 refine JJ.regionEnd ?_
 refine JJ.block ?_
 refine JJ.induct (X := Nat × Hp) (fun x => [(0, .slice A n cp), (1, .func (.func g) fs.toArray caps.toArray), (7, .int .i64 n), (8, .int .i64 x.1)]) (fun x => x.2) (fun x => [])
  (fun x => x.1 ≤ ds.length ∧ I.le x.2 ∧ ∀ i d, i < x.1 → ds[i]? = some d → F d = false) (fun x => ds.length - x.1) (0, I) ⟨Nat.zero_le _, .refl _, fun i d h => by omega⟩ (fun h => JJ.keep _ (by repeat (first | exact trivial | refine ⟨rfl, ?_⟩)) h) ?_
 rintro ⟨j, I1⟩ ⟨hj, hle, hpre⟩ ih
 dsimp only at hj hle hpre ih ⊢
 refine JJ.seq ?_
 refine JJ.region rfl fun rg => ?_
 refine JJ.bin rg rfl rfl rfl rfl rfl ?_
 refine JJ.regionEnd ?_
 refine JJ.seq ?_
 refine JJ.cond2 rfl (fun hc2 => ?_) (fun hc2 => ?_)
 ·
  have hc2b : (decide ((((j : Nat) : Int) : Int) < ((n : Nat) : Int))) = true := hc2
  replace hc2 := of_decide_eq_true hc2
  have hlt : j < ds.length := by omega
  obtain ⟨d, hd⟩ : ∃ d, ds[j]? = some d := ⟨_, List.getElem?_eq_getElem hlt⟩
  refine JJ.skip ?_
  refine JJ.seq ?_
  refine JJ.block ?_
  refine JJ.seq ?_
  refine JJ.region rfl fun rg => ?_
  refine JJ.move rg rfl rfl rfl ?_
  refine JJ.assign rg rfl rfl rfl ?_
  refine JJ.regionEnd ?_
  refine JJ.seq ?_
  refine JJ.region rfl fun rg => ?_
  refine JJ.move rg rfl rfl rfl ?_
  refine JJ.move rg rfl rfl rfl ?_
  refine JJ.move rg rfl rfl rfl ?_
  obtain ⟨a, cs, hA, hcap, hcl, hre, hrow⟩ := RSl.get (RSs.mono hl hle) hd
  cases hA
  refine JJ.indexAddr (a' := a.add (j * 7)) eo23 rg rfl rfl rfl rfl (by omega) (by omega) rfl ?_
  refine JJ.loadI (v := .agg (cs).toArray) ty35 rg rfl rfl rfl hrow (ldV_all hcl) ?_
  refine JJ.callp hg rg rfl rfl rfl rfl (hF _ hle cs d (List.mem_of_getElem? hd) hre) fun _ I1 hle2 _ => ?_
  replace hle := hle.trans hle2
  refine JJ.regionEnd ?_
  refine JJ.cond2 rfl (fun hc4 => ?_) (fun hc4 => ?_)
  ·
   have hc4b : (F d) = true := hc4
   refine JJ.seq ?_
   refine JJ.region rfl fun rg => ?_
   refine JJ.move rg rfl rfl rfl ?_
   refine JJ.assign rg rfl rfl rfl ?_
   refine JJ.regionEnd ?_
   refine JJ.ret1 rfl Try.func79 rfl rfl (fun h h_ => ⟨(), trivial, congrArg (Value.int .i64) (idxL_yes hd hpre hc4), trivial⟩)
  ·
   have hc4b : (F d) = false := hc4
   refine JJ.skip ?_
   refine JJ.inBlock ?_
   refine JJ.region rfl fun rg => ?_
   refine JJ.binI (z := ((j + 1 : Nat) : Int)) rg rfl rfl rfl rfl rfl (wrap_to (by omega) (by omega) (by omega)) ?_
   refine JJ.move rg rfl rfl rfl ?_
   refine JJ.regionEnd ?_
   refine JJ.keep _ ?_ (ih (j + 1, _) ⟨hlt, hle, fun i e hi he => by rcases Nat.lt_succ_iff_lt_or_eq.1 hi with h | h; exact hpre i e h he; subst h; rw [hd] at he; cases he; exact hc4⟩ (by dsimp only; omega))
   exact ⟨rfl, rfl, rfl, rfl, trivial⟩
 ·
  have hc2b : (decide ((((j : Nat) : Int) : Int) < ((n : Nat) : Int))) = false := hc2
  replace hc2 := of_decide_eq_false hc2
  refine JJ.exit rfl ?_
  refine JJ.seq ?_
  refine JJ.region rfl fun rg => ?_
  refine JJ.assign rg rfl rfl rfl ?_
  refine JJ.regionEnd ?_
  refine JJ.ret1 rfl Try.func79 rfl rfl (fun h h_ => ⟨(), trivial, congrArg (Value.int .i64) (idxL_end (by omega) hpre), trivial⟩)
theorem containsFunc_Stmt (I : Hp) (k : Nat) (A : Option Addr) (n cp : Nat) (ds : List St) (F : St → Bool) (g : Nat) (fs caps : List Value) (hn : ds.length ≤ 8589934592) (hl : RSs k I A n cp ds) (hg : bodyOk Try.prog g = true)
  (hF : ∀ I1, I.le I1 → ∀ cs d, d ∈ ds → RS k I1 cs d → Fn Try.prog g (fs ++ [Value.agg cs.toArray] ++ caps).toArray I1 [] (RB (F d))) : Fn Try.prog 65 #[.slice (A) (n) (cp), .func (.func g) fs.toArray caps.toArray] I [] (RB (ds.any F)) := by
 refine Fn.of (args := [_, _]) Try.func65 rfl rfl ?_
 refine JJ.seq ?_
 refine JJ.region rfl fun rg => ?_
 refine JJ.assign rg rfl rfl rfl ?_
 refine JJ.regionEnd ?_
 refine JJ.seq ?_
 refine JJ.region rfl fun rg => ?_
 refine JJ.move rg rfl rfl rfl ?_
 refine JJ.move rg rfl rfl rfl ?_
 refine JJ.callp bo79 rg rfl rfl rfl rfl (indexFunc_Stmt _ k A n cp ds F g fs caps hn hl hg hF) fun _ I1 hle2 _ => ?_
 refine JJ.bin rg rfl rfl rfl rfl rfl ?_
 refine JJ.assign rg rfl rfl rfl ?_
 refine JJ.regionEnd ?_
 refine JJ.ret1 rfl Try.func65 rfl rfl (fun h h_ => ⟨(), trivial, congrArg (Value.bool) (show (decide ((0 : Int) ≤ idxL F ds)) = (ds.any F) from by exact idxL_any F ds), trivial⟩)
theorem indexFunc_Proc (I : Hp) (k : Nat) (A : Option Addr) (n cp : Nat) (ds : List Pc) (F : Pc → Bool) (g : Nat) (fs caps : List Value) (hn : ds.length ≤ 8589934592) (hl : RPcs k I A n cp ds) (hg : bodyOk Try.prog g = true)
  (hF : ∀ I1, I.le I1 → ∀ cs d, d ∈ ds → RPc k I1 cs d → Fn Try.prog g (fs ++ [Value.agg cs.toArray] ++ caps).toArray I1 [] (RB (F d))) : Fn Try.prog 68 #[.slice (A) (n) (cp), .func (.func g) fs.toArray caps.toArray] I [] (RI (idxL F ds)) := by
 have hnn := hl.1
 refine Fn.of (args := [_, _]) Try.func68 rfl rfl ?_
 refine JJ.seq ?_
 refine JJ.region rfl fun rg => ?_
 refine JJ.assign rg rfl rfl rfl ?_
 refine JJ.regionEnd ?_
 refine JJ.seq ?_
 refine JJ.seq ?_
 refine JJ.region rfl fun rg => ?_
 refine JJ.move rg rfl rfl rfl ?_
 refine JJ.lenSlice ss22 rg rfl rfl rfl ?_
 refine JJ.move rg rfl rfl rfl ?_
 refine JJ.regionEnd ?_
 refine JJ.block ?_
 refine JJ.induct (X := Nat × Hp) (fun x => [(0, .slice A n cp), (1, .func (.func g) fs.toArray caps.toArray), (7, .int .i64 n), (8, .int .i64 x.1)]) (fun x => x.2) (fun x => [])
  (fun x => x.1 ≤ ds.length ∧ I.le x.2 ∧ ∀ i d, i < x.1 → ds[i]? = some d → F d = false) (fun x => ds.length - x.1) (0, I) ⟨Nat.zero_le _, .refl _, fun i d h => by omega⟩ (fun h => JJ.keep _ (by repeat (first | exact trivial | refine ⟨rfl, ?_⟩)) h) ?_
 rintro ⟨j, I1⟩ ⟨hj, hle, hpre⟩ ih
 dsimp only at hj hle hpre ih ⊢
 refine JJ.seq ?_
 refine JJ.region rfl fun rg => ?_
 refine JJ.bin rg rfl rfl rfl rfl rfl ?_
 refine JJ.regionEnd ?_
 refine JJ.seq ?_
 refine JJ.cond2 rfl (fun hc2 => ?_) (fun hc2 => ?_)
 ·
  have hc2b : (decide ((((j : Nat) : Int) : Int) < ((n : Nat) : Int))) = true := hc2
  replace hc2 := of_decide_eq_true hc2
  have hlt : j < ds.length := by omega
  obtain ⟨d, hd⟩ : ∃ d, ds[j]? = some d := ⟨_, List.getElem?_eq_getElem hlt⟩
  refine JJ.skip ?_
  refine JJ.seq ?_
  refine JJ.block ?_
  refine JJ.seq ?_
  refine JJ.region rfl fun rg => ?_
  refine JJ.move rg rfl rfl rfl ?_
  refine JJ.assign rg rfl rfl rfl ?_
  refine JJ.regionEnd ?_
  refine JJ.seq ?_
  refine JJ.region rfl fun rg => ?_
  refine JJ.move rg rfl rfl rfl ?_
  refine JJ.move rg rfl rfl rfl ?_
  refine JJ.move rg rfl rfl rfl ?_
  obtain ⟨a, cs, hA, hcap, hcl, hre, hrow⟩ := RSl.get (RPcs.mono hl hle) hd
  cases hA
  refine JJ.indexAddr (a' := a.add (j * 2)) eo22 rg rfl rfl rfl rfl (by omega) (by omega) rfl ?_
  refine JJ.loadI (v := .agg (cs).toArray) ty44 rg rfl rfl rfl hrow (ldV_all hcl) ?_
  refine JJ.callp hg rg rfl rfl rfl rfl (hF _ hle cs d (List.mem_of_getElem? hd) hre) fun _ I1 hle2 _ => ?_
  replace hle := hle.trans hle2
  refine JJ.regionEnd ?_
  refine JJ.cond2 rfl (fun hc4 => ?_) (fun hc4 => ?_)
  ·
   have hc4b : (F d) = true := hc4
   refine JJ.seq ?_
   refine JJ.region rfl fun rg => ?_
   refine JJ.move rg rfl rfl rfl ?_
   refine JJ.assign rg rfl rfl rfl ?_
   refine JJ.regionEnd ?_
   refine JJ.ret1 rfl Try.func68 rfl rfl (fun h h_ => ⟨(), trivial, congrArg (Value.int .i64) (idxL_yes hd hpre hc4), trivial⟩)
  ·
   have hc4b : (F d) = false := hc4
   refine JJ.skip ?_
   refine JJ.inBlock ?_
   refine JJ.region rfl fun rg => ?_
   refine JJ.binI (z := ((j + 1 : Nat) : Int)) rg rfl rfl rfl rfl rfl (wrap_to (by omega) (by omega) (by omega)) ?_
   refine JJ.move rg rfl rfl rfl ?_
   refine JJ.regionEnd ?_
   refine JJ.keep _ ?_ (ih (j + 1, _) ⟨hlt, hle, fun i e hi he => by rcases Nat.lt_succ_iff_lt_or_eq.1 hi with h | h; exact hpre i e h he; subst h; rw [hd] at he; cases he; exact hc4⟩ (by dsimp only; omega))
   exact ⟨rfl, rfl, rfl, rfl, trivial⟩
 ·
  have hc2b : (decide ((((j : Nat) : Int) : Int) < ((n : Nat) : Int))) = false := hc2
  replace hc2 := of_decide_eq_false hc2
  refine JJ.exit rfl ?_
  refine JJ.seq ?_
  refine JJ.region rfl fun rg => ?_
  refine JJ.assign rg rfl rfl rfl ?_
  refine JJ.regionEnd ?_
  refine JJ.ret1 rfl Try.func68 rfl rfl (fun h h_ => ⟨(), trivial, congrArg (Value.int .i64) (idxL_end (by omega) hpre), trivial⟩)
theorem containsFunc_Proc (I : Hp) (k : Nat) (A : Option Addr) (n cp : Nat) (ds : List Pc) (F : Pc → Bool) (g : Nat) (fs caps : List Value) (hn : ds.length ≤ 8589934592) (hl : RPcs k I A n cp ds) (hg : bodyOk Try.prog g = true)
  (hF : ∀ I1, I.le I1 → ∀ cs d, d ∈ ds → RPc k I1 cs d → Fn Try.prog g (fs ++ [Value.agg cs.toArray] ++ caps).toArray I1 [] (RB (F d))) : Fn Try.prog 52 #[.slice (A) (n) (cp), .func (.func g) fs.toArray caps.toArray] I [] (RB (ds.any F)) := by
 refine Fn.of (args := [_, _]) Try.func52 rfl rfl ?_
 refine JJ.seq ?_
 refine JJ.region rfl fun rg => ?_
 refine JJ.assign rg rfl rfl rfl ?_
 refine JJ.regionEnd ?_
 refine JJ.seq ?_
 refine JJ.region rfl fun rg => ?_
 refine JJ.move rg rfl rfl rfl ?_
 refine JJ.move rg rfl rfl rfl ?_
 refine JJ.callp bo68 rg rfl rfl rfl rfl (indexFunc_Proc _ k A n cp ds F g fs caps hn hl hg hF) fun _ I1 hle2 _ => ?_
 refine JJ.bin rg rfl rfl rfl rfl rfl ?_
 refine JJ.assign rg rfl rfl rfl ?_
 refine JJ.regionEnd ?_
 refine JJ.ret1 rfl Try.func52 rfl rfl (fun h h_ => ⟨(), trivial, congrArg (Value.bool) (show (decide ((0 : Int) ≤ idxL F ds)) = (ds.any F) from by exact idxL_any F ds), trivial⟩)
theorem indexFunc_Oracle (I : Hp) (k : Nat) (A : Option Addr) (n cp : Nat) (ds : List Oc) (F : Oc → Bool) (g : Nat) (fs caps : List Value) (hn : ds.length ≤ 8589934592) (hl : ROcs k I A n cp ds) (hg : bodyOk Try.prog g = true)
  (hF : ∀ I1, I.le I1 → ∀ cs d, d ∈ ds → ROc k I1 cs d → Fn Try.prog g (fs ++ [Value.agg cs.toArray] ++ caps).toArray I1 [] (RB (F d))) : Fn Try.prog 69 #[.slice (A) (n) (cp), .func (.func g) fs.toArray caps.toArray] I [] (RI (idxL F ds)) := by
 have hnn := hl.1
 refine Fn.of (args := [_, _]) Try.func69 rfl rfl ?_
 refine JJ.seq ?_
 refine JJ.region rfl fun rg => ?_
 refine JJ.assign rg rfl rfl rfl ?_
 refine JJ.regionEnd ?_
 refine JJ.seq ?_
 refine JJ.seq ?_
 refine JJ.region rfl fun rg => ?_
 refine JJ.move rg rfl rfl rfl ?_
 refine JJ.lenSlice ss24 rg rfl rfl rfl ?_
 refine JJ.move rg rfl rfl rfl ?_
 refine JJ.regionEnd ?_
 refine JJ.block ?_
 refine JJ.induct (X := Nat × Hp) (fun x => [(0, .slice A n cp), (1, .func (.func g) fs.toArray caps.toArray), (7, .int .i64 n), (8, .int .i64 x.1)]) (fun x => x.2) (fun x => [])
  (fun x => x.1 ≤ ds.length ∧ I.le x.2 ∧ ∀ i d, i < x.1 → ds[i]? = some d → F d = false) (fun x => ds.length - x.1) (0, I) ⟨Nat.zero_le _, .refl _, fun i d h => by omega⟩ (fun h => JJ.keep _ (by repeat (first | exact trivial | refine ⟨rfl, ?_⟩)) h) ?_
 rintro ⟨j, I1⟩ ⟨hj, hle, hpre⟩ ih
 dsimp only at hj hle hpre ih ⊢
 refine JJ.seq ?_
 refine JJ.region rfl fun rg => ?_
 refine JJ.bin rg rfl rfl rfl rfl rfl ?_
 refine JJ.regionEnd ?_
 refine JJ.seq ?_
 refine JJ.cond2 rfl (fun hc2 => ?_) (fun hc2 => ?_)
 ·
  have hc2b : (decide ((((j : Nat) : Int) : Int) < ((n : Nat) : Int))) = true := hc2
  replace hc2 := of_decide_eq_true hc2
  have hlt : j < ds.length := by omega
  obtain ⟨d, hd⟩ : ∃ d, ds[j]? = some d := ⟨_, List.getElem?_eq_getElem hlt⟩
  refine JJ.skip ?_
  refine JJ.seq ?_
  refine JJ.block ?_
  refine JJ.seq ?_
  refine JJ.region rfl fun rg => ?_
  refine JJ.move rg rfl rfl rfl ?_
  refine JJ.assign rg rfl rfl rfl ?_
  refine JJ.regionEnd ?_
  refine JJ.seq ?_
  refine JJ.region rfl fun rg => ?_
  refine JJ.move rg rfl rfl rfl ?_
  refine JJ.move rg rfl rfl rfl ?_
  refine JJ.move rg rfl rfl rfl ?_
  obtain ⟨a, cs, hA, hcap, hcl, hre, hrow⟩ := RSl.get (ROcs.mono hl hle) hd
  cases hA
  refine JJ.indexAddr (a' := a.add (j * 5)) eo24 rg rfl rfl rfl rfl (by omega) (by omega) rfl ?_
  refine JJ.loadI (v := .agg (cs).toArray) ty55 rg rfl rfl rfl hrow (ldV_all hcl) ?_
  refine JJ.callp hg rg rfl rfl rfl rfl (hF _ hle cs d (List.mem_of_getElem? hd) hre) fun _ I1 hle2 _ => ?_
  replace hle := hle.trans hle2
  refine JJ.regionEnd ?_
  refine JJ.cond2 rfl (fun hc4 => ?_) (fun hc4 => ?_)
  ·
   have hc4b : (F d) = true := hc4
   refine JJ.seq ?_
   refine JJ.region rfl fun rg => ?_
   refine JJ.move rg rfl rfl rfl ?_
   refine JJ.assign rg rfl rfl rfl ?_
   refine JJ.regionEnd ?_
   refine JJ.ret1 rfl Try.func69 rfl rfl (fun h h_ => ⟨(), trivial, congrArg (Value.int .i64) (idxL_yes hd hpre hc4), trivial⟩)
  ·
   have hc4b : (F d) = false := hc4
   refine JJ.skip ?_
   refine JJ.inBlock ?_
   refine JJ.region rfl fun rg => ?_
   refine JJ.binI (z := ((j + 1 : Nat) : Int)) rg rfl rfl rfl rfl rfl (wrap_to (by omega) (by omega) (by omega)) ?_
   refine JJ.move rg rfl rfl rfl ?_
   refine JJ.regionEnd ?_
   refine JJ.keep _ ?_ (ih (j + 1, _) ⟨hlt, hle, fun i e hi he => by rcases Nat.lt_succ_iff_lt_or_eq.1 hi with h | h; exact hpre i e h he; subst h; rw [hd] at he; cases he; exact hc4⟩ (by dsimp only; omega))
   exact ⟨rfl, rfl, rfl, rfl, trivial⟩
 ·
  have hc2b : (decide ((((j : Nat) : Int) : Int) < ((n : Nat) : Int))) = false := hc2
  replace hc2 := of_decide_eq_false hc2
  refine JJ.exit rfl ?_
  refine JJ.seq ?_
  refine JJ.region rfl fun rg => ?_
  refine JJ.assign rg rfl rfl rfl ?_
  refine JJ.regionEnd ?_
  refine JJ.ret1 rfl Try.func69 rfl rfl (fun h h_ => ⟨(), trivial, congrArg (Value.int .i64) (idxL_end (by omega) hpre), trivial⟩)
theorem containsFunc_Oracle (I : Hp) (k : Nat) (A : Option Addr) (n cp : Nat) (ds : List Oc) (F : Oc → Bool) (g : Nat) (fs caps : List Value) (hn : ds.length ≤ 8589934592) (hl : ROcs k I A n cp ds) (hg : bodyOk Try.prog g = true)
  (hF : ∀ I1, I.le I1 → ∀ cs d, d ∈ ds → ROc k I1 cs d → Fn Try.prog g (fs ++ [Value.agg cs.toArray] ++ caps).toArray I1 [] (RB (F d))) : Fn Try.prog 53 #[.slice (A) (n) (cp), .func (.func g) fs.toArray caps.toArray] I [] (RB (ds.any F)) := by
 refine Fn.of (args := [_, _]) Try.func53 rfl rfl ?_
 refine JJ.seq ?_
 refine JJ.region rfl fun rg => ?_
 refine JJ.assign rg rfl rfl rfl ?_
 refine JJ.regionEnd ?_
 refine JJ.seq ?_
 refine JJ.region rfl fun rg => ?_
 refine JJ.move rg rfl rfl rfl ?_
 refine JJ.move rg rfl rfl rfl ?_
 refine JJ.callp bo69 rg rfl rfl rfl rfl (indexFunc_Oracle _ k A n cp ds F g fs caps hn hl hg hF) fun _ I1 hle2 _ => ?_
 refine JJ.bin rg rfl rfl rfl rfl rfl ?_
 refine JJ.assign rg rfl rfl rfl ?_
 refine JJ.regionEnd ?_
 refine JJ.ret1 rfl Try.func53 rfl rfl (fun h h_ => ⟨(), trivial, congrArg (Value.bool) (show (decide ((0 : Int) ≤ idxL F ds)) = (ds.any F) from by exact idxL_any F ds), trivial⟩)
theorem indexFunc_Stmts (I : Hp) (k : Nat) (A : Option Addr) (n cp : Nat) (ds : List (List St)) (F : List St → Bool) (g : Nat) (fs caps : List Value) (hn : ds.length ≤ 8589934592) (hl : RSxs k I A n cp ds) (hg : bodyOk Try.prog g = true)
  (hF : ∀ I1, I.le I1 → ∀ A m cp d, d ∈ ds → RSs k I1 A m cp d → Fn Try.prog g (fs ++ [Value.slice A m cp] ++ caps).toArray I1 [] (RB (F d))) : Fn Try.prog 70 #[.slice (A) (n) (cp), .func (.func g) fs.toArray caps.toArray] I [] (RI (idxL F ds)) := by
 have hnn := hl.1
 refine Fn.of (args := [_, _]) Try.func70 rfl rfl ?_
 refine JJ.seq ?_
 refine JJ.region rfl fun rg => ?_
 refine JJ.assign rg rfl rfl rfl ?_
 refine JJ.regionEnd ?_
 refine JJ.seq ?_
 refine JJ.seq ?_
 refine JJ.region rfl fun rg => ?_
 refine JJ.move rg rfl rfl rfl ?_
 refine JJ.lenSlice ss57 rg rfl rfl rfl ?_
 refine JJ.move rg rfl rfl rfl ?_
 refine JJ.regionEnd ?_
 refine JJ.block ?_
 refine JJ.induct (X := Nat × Hp) (fun x => [(0, .slice A n cp), (1, .func (.func g) fs.toArray caps.toArray), (7, .int .i64 n), (8, .int .i64 x.1)]) (fun x => x.2) (fun x => [])
  (fun x => x.1 ≤ ds.length ∧ I.le x.2 ∧ ∀ i d, i < x.1 → ds[i]? = some d → F d = false) (fun x => ds.length - x.1) (0, I) ⟨Nat.zero_le _, .refl _, fun i d h => by omega⟩ (fun h => JJ.keep _ (by repeat (first | exact trivial | refine ⟨rfl, ?_⟩)) h) ?_
 rintro ⟨j, I1⟩ ⟨hj, hle, hpre⟩ ih
 dsimp only at hj hle hpre ih ⊢
 refine JJ.seq ?_
 refine JJ.region rfl fun rg => ?_
 refine JJ.bin rg rfl rfl rfl rfl rfl ?_
 refine JJ.regionEnd ?_
 refine JJ.seq ?_
 refine JJ.cond2 rfl (fun hc2 => ?_) (fun hc2 => ?_)
 ·
  have hc2b : (decide ((((j : Nat) : Int) : Int) < ((n : Nat) : Int))) = true := hc2
  replace hc2 := of_decide_eq_true hc2
  have hlt : j < ds.length := by omega
  obtain ⟨d, hd⟩ : ∃ d, ds[j]? = some d := ⟨_, List.getElem?_eq_getElem hlt⟩
  refine JJ.skip ?_
  refine JJ.seq ?_
  refine JJ.block ?_
  refine JJ.seq ?_
  refine JJ.region rfl fun rg => ?_
  refine JJ.move rg rfl rfl rfl ?_
  refine JJ.assign rg rfl rfl rfl ?_
  refine JJ.regionEnd ?_
  refine JJ.seq ?_
  refine JJ.region rfl fun rg => ?_
  refine JJ.move rg rfl rfl rfl ?_
  refine JJ.move rg rfl rfl rfl ?_
  refine JJ.move rg rfl rfl rfl ?_
  obtain ⟨a, cs, hA, hcap, hcl, hre, hrow⟩ := RSl.get (RSxs.mono hl hle) hd
  cases hA
  obtain ⟨A1, m1, c1, rfl, hre⟩ := hre
  refine JJ.indexAddr (a' := a.add (j * 1)) eo57 rg rfl rfl rfl rfl (by omega) (by omega) rfl ?_
  refine JJ.loadI (v := .slice (A1) (m1) (c1)) ty23 rg rfl rfl rfl hrow rfl ?_
  refine JJ.callp hg rg rfl rfl rfl rfl (hF _ hle _ _ _ d (List.mem_of_getElem? hd) hre) fun _ I1 hle2 _ => ?_
  replace hle := hle.trans hle2
  refine JJ.regionEnd ?_
  refine JJ.cond2 rfl (fun hc4 => ?_) (fun hc4 => ?_)
  ·
   have hc4b : (F d) = true := hc4
   refine JJ.seq ?_
   refine JJ.region rfl fun rg => ?_
   refine JJ.move rg rfl rfl rfl ?_
   refine JJ.assign rg rfl rfl rfl ?_
   refine JJ.regionEnd ?_
   refine JJ.ret1 rfl Try.func70 rfl rfl (fun h h_ => ⟨(), trivial, congrArg (Value.int .i64) (idxL_yes hd hpre hc4), trivial⟩)
  ·
   have hc4b : (F d) = false := hc4
   refine JJ.skip ?_
   refine JJ.inBlock ?_
   refine JJ.region rfl fun rg => ?_
   refine JJ.binI (z := ((j + 1 : Nat) : Int)) rg rfl rfl rfl rfl rfl (wrap_to (by omega) (by omega) (by omega)) ?_
   refine JJ.move rg rfl rfl rfl ?_
   refine JJ.regionEnd ?_
   refine JJ.keep _ ?_ (ih (j + 1, _) ⟨hlt, hle, fun i e hi he => by rcases Nat.lt_succ_iff_lt_or_eq.1 hi with h | h; exact hpre i e h he; subst h; rw [hd] at he; cases he; exact hc4⟩ (by dsimp only; omega))
   exact ⟨rfl, rfl, rfl, rfl, trivial⟩
 ·
  have hc2b : (decide ((((j : Nat) : Int) : Int) < ((n : Nat) : Int))) = false := hc2
  replace hc2 := of_decide_eq_false hc2
  refine JJ.exit rfl ?_
  refine JJ.seq ?_
  refine JJ.region rfl fun rg => ?_
  refine JJ.assign rg rfl rfl rfl ?_
  refine JJ.regionEnd ?_
  refine JJ.ret1 rfl Try.func70 rfl rfl (fun h h_ => ⟨(), trivial, congrArg (Value.int .i64) (idxL_end (by omega) hpre), trivial⟩)
theorem containsFunc_Stmts (I : Hp) (k : Nat) (A : Option Addr) (n cp : Nat) (ds : List (List St)) (F : List St → Bool) (g : Nat) (fs caps : List Value) (hn : ds.length ≤ 8589934592) (hl : RSxs k I A n cp ds) (hg : bodyOk Try.prog g = true)
  (hF : ∀ I1, I.le I1 → ∀ A m cp d, d ∈ ds → RSs k I1 A m cp d → Fn Try.prog g (fs ++ [Value.slice A m cp] ++ caps).toArray I1 [] (RB (F d))) : Fn Try.prog 54 #[.slice (A) (n) (cp), .func (.func g) fs.toArray caps.toArray] I [] (RB (ds.any F)) := by
 refine Fn.of (args := [_, _]) Try.func54 rfl rfl ?_
 refine JJ.seq ?_
 refine JJ.region rfl fun rg => ?_
 refine JJ.assign rg rfl rfl rfl ?_
 refine JJ.regionEnd ?_
 refine JJ.seq ?_
 refine JJ.region rfl fun rg => ?_
 refine JJ.move rg rfl rfl rfl ?_
 refine JJ.move rg rfl rfl rfl ?_
 refine JJ.callp bo70 rg rfl rfl rfl rfl (indexFunc_Stmts _ k A n cp ds F g fs caps hn hl hg hF) fun _ I1 hle2 _ => ?_
 refine JJ.bin rg rfl rfl rfl rfl rfl ?_
 refine JJ.assign rg rfl rfl rfl ?_
 refine JJ.regionEnd ?_
 refine JJ.ret1 rfl Try.func54 rfl rfl (fun h h_ => ⟨(), trivial, congrArg (Value.bool) (show (decide ((0 : Int) ≤ idxL F ds)) = (ds.any F) from by exact idxL_any F ds), trivial⟩)
theorem Parts (I : Hp) (op : Int) : Fn Try.prog 62 #[.int .i64 op] I [] (Ret (X := Unit) (fun _ _ => True) (fun _ => .tuple #[.int .i64 (partsN op), .bool (partsOk op)]) fun _ => []) := by
 refine Fn.of (args := [_]) Try.func62 rfl rfl ?_
 refine JJ.seq ?_
 refine JJ.region rfl fun rg => ?_
 refine JJ.assign rg rfl rfl rfl ?_
 refine JJ.assign rg rfl rfl rfl ?_
 refine JJ.regionEnd ?_
 refine JJ.seq ?_
 refine JJ.block ?_
 refine JJ.seq ?_
 refine JJ.region rfl fun rg => ?_
 refine JJ.move rg rfl rfl rfl ?_
 refine JJ.bin rg rfl rfl rfl rfl rfl ?_
 refine JJ.move rg rfl rfl rfl ?_
 refine JJ.split 7 rfl (fun hg1_3 => ?_) (fun hg1_3 => ?_)
 ·
  have hg1_3b : (decide ((op : Int) < 1)) = true := hg1_3
  replace hg1_3 := of_decide_eq_true hg1_3
  refine JJ.gskip rg rfl rfl ?_
  refine JJ.gskip rg rfl rfl ?_
  refine JJ.pick (b := true) rg rfl rfl rfl rfl ?_
  refine JJ.assign rg rfl rfl rfl ?_
  refine JJ.regionEnd ?_
  refine JJ.cond (b := true) rfl ?_
  refine JJ.seq ?_
  refine JJ.region rfl fun rg => ?_
  refine JJ.assign rg rfl rfl rfl ?_
  refine JJ.assign rg rfl rfl rfl ?_
  refine JJ.regionEnd ?_
  refine JJ.ret2 rfl Try.func62 rfl rfl rfl (fun h h_ => ⟨(), trivial, (by unfold partsN partsOk; (repeat' split) <;> first | rfl | (exfalso; omega)), trivial⟩)
 ·
  have hg1_3b : (decide ((op : Int) < 1)) = false := hg1_3
  replace hg1_3 := of_decide_eq_false hg1_3
  refine JJ.move rg rfl rfl rfl ?_
  refine JJ.bin rg rfl rfl rfl rfl rfl ?_
  refine JJ.pick (b := false) rg rfl rfl rfl rfl ?_
  refine JJ.assign rg rfl rfl rfl ?_
  refine JJ.regionEnd ?_
  refine JJ.split 4 rfl (fun hc2 => ?_) (fun hc2 => ?_)
  ·
   have hc2b : (decide ((14 : Int) < op)) = true := hc2
   replace hc2 := of_decide_eq_true hc2
   refine JJ.cond (b := true) rfl ?_
   refine JJ.seq ?_
   refine JJ.region rfl fun rg => ?_
   refine JJ.assign rg rfl rfl rfl ?_
   refine JJ.assign rg rfl rfl rfl ?_
   refine JJ.regionEnd ?_
   refine JJ.ret2 rfl Try.func62 rfl rfl rfl (fun h h_ => ⟨(), trivial, (by unfold partsN partsOk; (repeat' split) <;> first | rfl | (exfalso; omega)), trivial⟩)
  ·
   have hc2b : (decide ((14 : Int) < op)) = false := hc2
   replace hc2 := of_decide_eq_false hc2
   refine JJ.cond (b := false) rfl ?_
   refine JJ.seq ?_
   refine JJ.region rfl fun rg => ?_
   refine JJ.move rg rfl rfl rfl ?_
   refine JJ.bin rg rfl rfl rfl rfl rfl ?_
   refine JJ.assign rg rfl rfl rfl ?_
   refine JJ.regionEnd ?_
   refine JJ.split 11 rfl (fun hc3 => ?_) (fun hc3 => ?_)
   ·
    have hc3b : (decide ((op : Int) ≤ 4)) = true := hc3
    replace hc3 := of_decide_eq_true hc3
    refine JJ.cond (b := true) rfl ?_
    refine JJ.seq ?_
    refine JJ.region rfl fun rg => ?_
    refine JJ.assign rg rfl rfl rfl ?_
    refine JJ.assign rg rfl rfl rfl ?_
    refine JJ.regionEnd ?_
    refine JJ.ret2 rfl Try.func62 rfl rfl rfl (fun h h_ => ⟨(), trivial, (by unfold partsN partsOk; (repeat' split) <;> first | rfl | (exfalso; omega)), trivial⟩)
   ·
    have hc3b : (decide ((op : Int) ≤ 4)) = false := hc3
    replace hc3 := of_decide_eq_false hc3
    refine JJ.cond (b := false) rfl ?_
    refine JJ.seq ?_
    refine JJ.region rfl fun rg => ?_
    refine JJ.move rg rfl rfl rfl ?_
    refine JJ.bin rg rfl rfl rfl rfl rfl ?_
    refine JJ.assign rg rfl rfl rfl ?_
    refine JJ.regionEnd ?_
    refine JJ.split 14 rfl (fun hc5 => ?_) (fun hc5 => ?_)
    ·
     have hc5b : (decide ((op : Int) ≤ 8)) = true := hc5
     replace hc5 := of_decide_eq_true hc5
     refine JJ.cond (b := true) rfl ?_
     refine JJ.seq ?_
     refine JJ.region rfl fun rg => ?_
     refine JJ.assign rg rfl rfl rfl ?_
     refine JJ.assign rg rfl rfl rfl ?_
     refine JJ.regionEnd ?_
     refine JJ.ret2 rfl Try.func62 rfl rfl rfl (fun h h_ => ⟨(), trivial, (by unfold partsN partsOk; (repeat' split) <;> first | rfl | (exfalso; omega)), trivial⟩)
    ·
     have hc5b : (decide ((op : Int) ≤ 8)) = false := hc5
     replace hc5 := of_decide_eq_false hc5
     refine JJ.cond (b := false) rfl ?_
     refine JJ.skip ?_
     refine JJ.inBlock ?_
     refine JJ.seq ?_
     refine JJ.region rfl fun rg => ?_
     refine JJ.assign rg rfl rfl rfl ?_
     refine JJ.assign rg rfl rfl rfl ?_
     refine JJ.regionEnd ?_
     refine JJ.ret2 rfl Try.func62 rfl rfl rfl (fun h h_ => ⟨(), trivial, (by unfold partsN partsOk; (repeat' split) <;> first | rfl | (exfalso; omega)), trivial⟩)
theorem Exprs (I : Hp) (op : Int) : Fn Try.prog 85 #[.int .i64 op] I [] (Ret (X := Unit) (fun _ _ => True) (fun _ => .tuple #[.int .i64 (exprsN op), .bool (exprsOk op)]) fun _ => []) := by
 refine Fn.of (args := [_]) Try.func85 rfl rfl ?_
 refine JJ.seq ?_
 refine JJ.region rfl fun rg => ?_
 refine JJ.assign rg rfl rfl rfl ?_
 refine JJ.assign rg rfl rfl rfl ?_
 refine JJ.regionEnd ?_
 refine JJ.seq ?_
 refine JJ.seq ?_
 refine JJ.region rfl fun rg => ?_
 refine JJ.move rg rfl rfl rfl ?_
 refine JJ.regionEnd ?_
 refine JJ.block ?_
 refine JJ.seq ?_
 refine JJ.seq ?_
 refine JJ.region rfl fun rg => ?_
 refine JJ.bin rg rfl rfl rfl rfl rfl ?_
 refine JJ.assign rg rfl rfl rfl ?_
 refine JJ.regionEnd ?_
 refine JJ.split 5 rfl (fun hc2 => ?_) (fun hc2 => ?_)
 ·
  have hc2b : (decide ((op : Int) = 11)) = true := hc2
  replace hc2 := of_decide_eq_true hc2
  refine JJ.cond (b := true) rfl ?_
  refine JJ.skip ?_
  refine JJ.cond (b := true) rfl ?_
  refine JJ.seq ?_
  refine JJ.region rfl fun rg => ?_
  refine JJ.assign rg rfl rfl rfl ?_
  refine JJ.assign rg rfl rfl rfl ?_
  refine JJ.regionEnd ?_
  refine JJ.ret2 rfl Try.func85 rfl rfl rfl (fun h h_ => ⟨(), trivial, (by unfold exprsN exprsOk; (repeat' split) <;> first | rfl | (exfalso; omega)), trivial⟩)
 ·
  have hc2b : (decide ((op : Int) = 11)) = false := hc2
  replace hc2 := of_decide_eq_false hc2
  refine JJ.cond (b := false) rfl ?_
  refine JJ.seq ?_
  refine JJ.region rfl fun rg => ?_
  refine JJ.bin rg rfl rfl rfl rfl rfl ?_
  refine JJ.assign rg rfl rfl rfl ?_
  refine JJ.regionEnd ?_
  refine JJ.split 5 rfl (fun hc3 => ?_) (fun hc3 => ?_)
  ·
   have hc3b : (decide ((op : Int) = 14)) = true := hc3
   replace hc3 := of_decide_eq_true hc3
   refine JJ.cond (b := true) rfl ?_
   refine JJ.skip ?_
   refine JJ.cond (b := true) rfl ?_
   refine JJ.seq ?_
   refine JJ.region rfl fun rg => ?_
   refine JJ.assign rg rfl rfl rfl ?_
   refine JJ.assign rg rfl rfl rfl ?_
   refine JJ.regionEnd ?_
   refine JJ.ret2 rfl Try.func85 rfl rfl rfl (fun h h_ => ⟨(), trivial, (by unfold exprsN exprsOk; (repeat' split) <;> first | rfl | (exfalso; omega)), trivial⟩)
  ·
   have hc3b : (decide ((op : Int) = 14)) = false := hc3
   replace hc3 := of_decide_eq_false hc3
   refine JJ.cond (b := false) rfl ?_
   refine JJ.region rfl fun rg => ?_
   refine JJ.bin rg rfl rfl rfl rfl rfl ?_
   refine JJ.assign rg rfl rfl rfl ?_
   refine JJ.regionEnd ?_
   refine JJ.split 5 rfl (fun hc4 => ?_) (fun hc4 => ?_)
   ·
    have hc4b : (decide ((op : Int) = 15)) = true := hc4
    replace hc4 := of_decide_eq_true hc4
    refine JJ.cond (b := true) rfl ?_
    refine JJ.seq ?_
    refine JJ.region rfl fun rg => ?_
    refine JJ.assign rg rfl rfl rfl ?_
    refine JJ.assign rg rfl rfl rfl ?_
    refine JJ.regionEnd ?_
    refine JJ.ret2 rfl Try.func85 rfl rfl rfl (fun h h_ => ⟨(), trivial, (by unfold exprsN exprsOk; (repeat' split) <;> first | rfl | (exfalso; omega)), trivial⟩)
   ·
    have hc4b : (decide ((op : Int) = 15)) = false := hc4
    replace hc4 := of_decide_eq_false hc4
    refine JJ.cond (b := false) rfl ?_
    refine JJ.seq ?_
    refine JJ.seq ?_
    refine JJ.region rfl fun rg => ?_
    refine JJ.bin rg rfl rfl rfl rfl rfl ?_
    refine JJ.assign rg rfl rfl rfl ?_
    refine JJ.regionEnd ?_
    refine JJ.split 9 rfl (fun hc6 => ?_) (fun hc6 => ?_)
    ·
     have hc6b : (decide ((op : Int) = 4)) = true := hc6
     replace hc6 := of_decide_eq_true hc6
     refine JJ.cond (b := true) rfl ?_
     refine JJ.skip ?_
     refine JJ.cond (b := true) rfl ?_
     refine JJ.seq ?_
     refine JJ.region rfl fun rg => ?_
     refine JJ.assign rg rfl rfl rfl ?_
     refine JJ.assign rg rfl rfl rfl ?_
     refine JJ.regionEnd ?_
     refine JJ.ret2 rfl Try.func85 rfl rfl rfl (fun h h_ => ⟨(), trivial, (by unfold exprsN exprsOk; (repeat' split) <;> first | rfl | (exfalso; omega)), trivial⟩)
    ·
     have hc6b : (decide ((op : Int) = 4)) = false := hc6
     replace hc6 := of_decide_eq_false hc6
     refine JJ.cond (b := false) rfl ?_
     refine JJ.seq ?_
     refine JJ.region rfl fun rg => ?_
     refine JJ.bin rg rfl rfl rfl rfl rfl ?_
     refine JJ.assign rg rfl rfl rfl ?_
     refine JJ.regionEnd ?_
     refine JJ.split 9 rfl (fun hc7 => ?_) (fun hc7 => ?_)
     ·
      have hc7b : (decide ((op : Int) = 5)) = true := hc7
      replace hc7 := of_decide_eq_true hc7
      refine JJ.cond (b := true) rfl ?_
      refine JJ.skip ?_
      refine JJ.cond (b := true) rfl ?_
      refine JJ.seq ?_
      refine JJ.region rfl fun rg => ?_
      refine JJ.assign rg rfl rfl rfl ?_
      refine JJ.assign rg rfl rfl rfl ?_
      refine JJ.regionEnd ?_
      refine JJ.ret2 rfl Try.func85 rfl rfl rfl (fun h h_ => ⟨(), trivial, (by unfold exprsN exprsOk; (repeat' split) <;> first | rfl | (exfalso; omega)), trivial⟩)
     ·
      have hc7b : (decide ((op : Int) = 5)) = false := hc7
      replace hc7 := of_decide_eq_false hc7
      refine JJ.cond (b := false) rfl ?_
      refine JJ.region rfl fun rg => ?_
      refine JJ.bin rg rfl rfl rfl rfl rfl ?_
      refine JJ.assign rg rfl rfl rfl ?_
      refine JJ.regionEnd ?_
      refine JJ.split 9 rfl (fun hc8 => ?_) (fun hc8 => ?_)
      ·
       have hc8b : (decide ((op : Int) = 6)) = true := hc8
       replace hc8 := of_decide_eq_true hc8
       refine JJ.cond (b := true) rfl ?_
       refine JJ.seq ?_
       refine JJ.region rfl fun rg => ?_
       refine JJ.assign rg rfl rfl rfl ?_
       refine JJ.assign rg rfl rfl rfl ?_
       refine JJ.regionEnd ?_
       refine JJ.ret2 rfl Try.func85 rfl rfl rfl (fun h h_ => ⟨(), trivial, (by unfold exprsN exprsOk; (repeat' split) <;> first | rfl | (exfalso; omega)), trivial⟩)
      ·
       have hc8b : (decide ((op : Int) = 6)) = false := hc8
       replace hc8 := of_decide_eq_false hc8
       refine JJ.cond (b := false) rfl ?_
       refine JJ.seq ?_
       refine JJ.region rfl fun rg => ?_
       refine JJ.bin rg rfl rfl rfl rfl rfl ?_
       refine JJ.assign rg rfl rfl rfl ?_
       refine JJ.regionEnd ?_
       refine JJ.split 13 rfl (fun hc10 => ?_) (fun hc10 => ?_)
       ·
        have hc10b : (decide ((op : Int) = 3)) = true := hc10
        replace hc10 := of_decide_eq_true hc10
        refine JJ.cond (b := true) rfl ?_
        refine JJ.seq ?_
        refine JJ.region rfl fun rg => ?_
        refine JJ.assign rg rfl rfl rfl ?_
        refine JJ.assign rg rfl rfl rfl ?_
        refine JJ.regionEnd ?_
        refine JJ.ret2 rfl Try.func85 rfl rfl rfl (fun h h_ => ⟨(), trivial, (by unfold exprsN exprsOk; (repeat' split) <;> first | rfl | (exfalso; omega)), trivial⟩)
       ·
        have hc10b : (decide ((op : Int) = 3)) = false := hc10
        replace hc10 := of_decide_eq_false hc10
        refine JJ.cond (b := false) rfl ?_
        refine JJ.skip ?_
        refine JJ.inBlock ?_
        refine JJ.seq ?_
        refine JJ.seq ?_
        refine JJ.region rfl fun rg => ?_
        refine JJ.move rg rfl rfl rfl ?_
        refine JJ.bin rg rfl rfl rfl rfl rfl ?_
        refine JJ.move rg rfl rfl rfl ?_
        refine JJ.split 17 rfl (fun hg12_3 => ?_) (fun hg12_3 => ?_)
        ·
         have hg12_3b : (decide ((op : Int) < 1)) = true := hg12_3
         replace hg12_3 := of_decide_eq_true hg12_3
         refine JJ.gskip rg rfl rfl ?_
         refine JJ.gskip rg rfl rfl ?_
         refine JJ.pick (b := true) rg rfl rfl rfl rfl ?_
         refine JJ.regionEnd ?_
         refine JJ.cond (b := true) rfl ?_
         refine JJ.seq ?_
         refine JJ.region rfl fun rg => ?_
         refine JJ.assign rg rfl rfl rfl ?_
         refine JJ.assign rg rfl rfl rfl ?_
         refine JJ.regionEnd ?_
         refine JJ.ret2 rfl Try.func85 rfl rfl rfl (fun h h_ => ⟨(), trivial, (by unfold exprsN exprsOk; (repeat' split) <;> first | rfl | (exfalso; omega)), trivial⟩)
        ·
         have hg12_3b : (decide ((op : Int) < 1)) = false := hg12_3
         replace hg12_3 := of_decide_eq_false hg12_3
         refine JJ.move rg rfl rfl rfl ?_
         refine JJ.bin rg rfl rfl rfl rfl rfl ?_
         refine JJ.pick (b := false) rg rfl rfl rfl rfl ?_
         refine JJ.regionEnd ?_
         refine JJ.split 20 rfl (fun hc13 => ?_) (fun hc13 => ?_)
         ·
          have hc13b : (decide ((18 : Int) < op)) = true := hc13
          replace hc13 := of_decide_eq_true hc13
          refine JJ.cond (b := true) rfl ?_
          refine JJ.seq ?_
          refine JJ.region rfl fun rg => ?_
          refine JJ.assign rg rfl rfl rfl ?_
          refine JJ.assign rg rfl rfl rfl ?_
          refine JJ.regionEnd ?_
          refine JJ.ret2 rfl Try.func85 rfl rfl rfl (fun h h_ => ⟨(), trivial, (by unfold exprsN exprsOk; (repeat' split) <;> first | rfl | (exfalso; omega)), trivial⟩)
         ·
          have hc13b : (decide ((18 : Int) < op)) = false := hc13
          replace hc13 := of_decide_eq_false hc13
          refine JJ.cond (b := false) rfl ?_
          refine JJ.skip ?_
          refine JJ.seq ?_
          refine JJ.region rfl fun rg => ?_
          refine JJ.assign rg rfl rfl rfl ?_
          refine JJ.assign rg rfl rfl rfl ?_
          refine JJ.regionEnd ?_
          refine JJ.ret2 rfl Try.func85 rfl rfl rfl (fun h h_ => ⟨(), trivial, (by unfold exprsN exprsOk; (repeat' split) <;> first | rfl | (exfalso; omega)), trivial⟩)
theorem blocks (I : Hp) (op : Int) : Fn Try.prog 86 #[.int .i64 op] I [] (Ret (X := Unit) (fun _ _ => True) (fun _ => .tuple #[.bool (bodyB op), .bool (elseB op)]) fun _ => []) := by
 refine Fn.of (args := [_]) Try.func86 rfl rfl ?_
 refine JJ.seq ?_
 refine JJ.region rfl fun rg => ?_
 refine JJ.assign rg rfl rfl rfl ?_
 refine JJ.assign rg rfl rfl rfl ?_
 refine JJ.regionEnd ?_
 refine JJ.seq ?_
 refine JJ.cut (X := Hp) (fun _ => [(2, .bool (bodyB op)), (3, .bool (elseB op))]) (fun x => x) (fun _ => []) (fun x => Hp.le (I) x) (fun hk2 => ?_) ?_
 ·
  have hleM1 := Hp.le.refl (I)
  refine JJ.region rfl fun rg => ?_
  refine JJ.move rg rfl rfl rfl ?_
  refine JJ.bin rg rfl rfl rfl rfl rfl ?_
  refine JJ.move rg rfl rfl rfl ?_
  refine JJ.split 6 rfl (fun hg1_3 => ?_) (fun hg1_3 => ?_)
  ·
   have hg1_3b : (decide ((op : Int) = 13)) = true := hg1_3
   replace hg1_3 := of_decide_eq_true hg1_3
   refine JJ.gskip rg rfl rfl ?_
   refine JJ.gskip rg rfl rfl ?_
   refine JJ.pick (b := true) rg rfl rfl rfl rfl ?_
   refine JJ.move rg rfl rfl rfl ?_
   refine JJ.gskip rg rfl rfl ?_
   refine JJ.gskip rg rfl rfl ?_
   refine JJ.pick (b := true) rg rfl rfl rfl rfl ?_
   refine JJ.move rg rfl rfl rfl ?_
   refine JJ.bin rg rfl rfl rfl rfl rfl ?_
   refine JJ.assign rg rfl rfl rfl ?_
   refine JJ.assign rg rfl rfl rfl ?_
   refine JJ.regionEnd ?_
   refine JJ.keep _ ?_ (hk2 _ hleM1)
   exact ⟨congrArg (fun b => some (Value.bool b)) (show (true) = (bodyB op) from by simp [bodyB, elseB, *]), congrArg (fun b => some (Value.bool b)) (show (decide ((op : Int) = 13)) = (elseB op) from by simp [bodyB, elseB, *]), trivial⟩
  ·
   have hg1_3b : (decide ((op : Int) = 13)) = false := hg1_3
   replace hg1_3 := of_decide_eq_false hg1_3
   refine JJ.move rg rfl rfl rfl ?_
   refine JJ.bin rg rfl rfl rfl rfl rfl ?_
   refine JJ.pick (b := false) rg rfl rfl rfl rfl ?_
   refine JJ.move rg rfl rfl rfl ?_
   refine JJ.split 10 rfl (fun hg1_7 => ?_) (fun hg1_7 => ?_)
   ·
    have hg1_7b : (decide ((op : Int) = 14)) = true := hg1_7
    replace hg1_7 := of_decide_eq_true hg1_7
    refine JJ.gskip rg rfl rfl ?_
    refine JJ.gskip rg rfl rfl ?_
    refine JJ.pick (b := true) rg rfl rfl rfl rfl ?_
    refine JJ.move rg rfl rfl rfl ?_
    refine JJ.bin rg rfl rfl rfl rfl rfl ?_
    refine JJ.assign rg rfl rfl rfl ?_
    refine JJ.assign rg rfl rfl rfl ?_
    refine JJ.regionEnd ?_
    refine JJ.keep _ ?_ (hk2 _ hleM1)
    exact ⟨congrArg (fun b => some (Value.bool b)) (show (true) = (bodyB op) from by simp [bodyB, elseB, *]), congrArg (fun b => some (Value.bool b)) (show (decide ((op : Int) = 13)) = (elseB op) from by simp [bodyB, elseB, *]), trivial⟩
   ·
    have hg1_7b : (decide ((op : Int) = 14)) = false := hg1_7
    replace hg1_7 := of_decide_eq_false hg1_7
    refine JJ.move rg rfl rfl rfl ?_
    refine JJ.bin rg rfl rfl rfl rfl rfl ?_
    refine JJ.pick (b := false) rg rfl rfl rfl rfl ?_
    refine JJ.move rg rfl rfl rfl ?_
    refine JJ.bin rg rfl rfl rfl rfl rfl ?_
    refine JJ.assign rg rfl rfl rfl ?_
    refine JJ.assign rg rfl rfl rfl ?_
    refine JJ.regionEnd ?_
    refine JJ.keep _ ?_ (hk2 _ hleM1)
    exact ⟨congrArg (fun b => some (Value.bool b)) (show (decide ((op : Int) = 16)) = (bodyB op) from by simp [bodyB, elseB, *]), congrArg (fun b => some (Value.bool b)) (show (decide ((op : Int) = 13)) = (elseB op) from by simp [bodyB, elseB, *]), trivial⟩
 ·
  intro I3 hle4
  refine JJ.ret2 rfl Try.func86 rfl rfl rfl (fun h h_ => ⟨(), trivial, rfl, trivial⟩)
def ExprOk (k : Nat) : Prop := ∀ (I : Hp) (cs : List Value) (x : Ex) (d : Nat), RE k I cs x → GL 0 I → x.sz ≤ 4294967296 → d ≤ 4294967296 → Fn Try.prog 49 #[.agg cs.toArray, .int .i64 d] I [] (RB (x.ok d))
theorem expr1 (I : Hp) (k : Nat) (ih : ExprOk k) (cs : List Value) (x : Ex) (d b : Nat) (hre : RE k I cs x) (hgl : GL 0 I) (hsz : x.sz ≤ 4294967296) (hd : d ≠ 0) (hd2 : d ≤ 4294967296) (hb : Row I ⟨b, 0, none⟩ [.int .i64 d]) : Fn Try.prog 64 #[.agg (cs).toArray, .pointer (some ⟨b, 0, none⟩)] I [] (RB (!x.ok (d - 1))) := by
 refine Fn.of (args := [_, _]) Try.func64 rfl rfl ?_
 refine JJ.seq ?_
 refine JJ.region rfl fun rg => ?_
 refine JJ.box (cs := cs) rg rfl rfl rfl rfl fun b1 => ?_
 refine JJ.assign rg rfl rfl rfl ?_
 refine JJ.regionEnd ?_
 refine JJ.seq ?_
 refine JJ.region rfl fun rg => ?_
 refine JJ.loadL (v := .agg (cs).toArray) ty53 0 rg rfl rfl rfl rfl (ldV_all hre.len) ?_
 refine JJ.loadI (v := .int .i64 (((d : Nat) : Int))) ty3 rg rfl rfl rfl hb rfl ?_
 refine JJ.binI (z := ((d - 1 : Nat) : Int)) rg rfl rfl rfl rfl rfl (wrap_to (by omega) (by omega) (by omega)) ?_
 refine JJ.callp bo49 rg rfl rfl rfl rfl (ih _ cs x (d - 1) hre hgl hsz (by omega)) fun _ I2 hle3 _ => ?_
 refine JJ.not rg rfl rfl rfl ?_
 refine JJ.assign rg rfl rfl rfl ?_
 refine JJ.regionEnd ?_
 refine JJ.ret1 rfl Try.func64 rfl rfl (fun h h_ => ⟨(), trivial, congrArg (Value.bool) (show (!(x.ok (d - 1))) = (!x.ok (d - 1)) from by simp [*]), trivial⟩)
theorem expr : ∀ k, ExprOk k := by
 intro k
 induction k with
 | zero => intro I cs x d h; exact h.elim
 | succ k ih =>
 intro I cs x d hre hgl hsz hd2
 obtain ⟨A, m, cp, rfl, hx⟩ := hre
 obtain rfl := hx.1
 have hz := x.sz_eq
 have hll := Ex.szl_len x.x
 change REs k I A x.x.length cp x.x at hx
 show Fn _ _ _ _ _ _
 refine Fn.of (args := [_, _]) Try.func49 rfl rfl ?_
 refine JJ.seq ?_
 refine JJ.region rfl fun rg => ?_
 refine JJ.box (cs := [.int .i64 (x.op), .int .i64 (x.n), .string (x.s), .slice (A) (x.x.length) (cp)]) rg rfl rfl rfl rfl fun b1 => ?_
 refine JJ.box (cs := [.int .i64 (((d : Nat) : Int))]) rg rfl rfl rfl rfl fun b2 => ?_
 refine JJ.assign rg rfl rfl rfl ?_
 refine JJ.regionEnd ?_
 refine JJ.seq ?_
 refine JJ.region rfl fun rg => ?_
 refine JJ.fieldAddr (a' := ⟨b1, 0, none⟩) fo53_0 rg rfl rfl rfl rfl ?_
 refine JJ.loadL (v := .int .i64 (x.op)) ty3 1 rg rfl rfl rfl rfl rfl ?_
 refine JJ.callp bo62 rg rfl rfl rfl rfl (Parts _ x.op) fun _ I3 hle4 _ => ?_
 replace hgl := hgl.mono hle4
 replace hx := hx.mono hle4
 refine JJ.move rg rfl rfl rfl ?_
 refine JJ.extract rg rfl rfl rfl rfl ?_
 refine JJ.extract rg rfl rfl rfl rfl ?_
 refine JJ.assign rg rfl rfl rfl ?_
 refine JJ.assign rg rfl rfl rfl ?_
 refine JJ.regionEnd ?_
 refine JJ.seq ?_
 refine JJ.seq ?_
 refine JJ.cut (X := Hp) (fun _ => [(26, .bool (!(partsOk x.op && decide (d ≠ 0) && decide ((x.x.length : Int) = partsN x.op)))), (2, .pointer (some ⟨b1, 0, none⟩)), (3, .pointer (some ⟨b2, 0, none⟩)), (4, .bool false), (6, .bool (partsOk x.op))]) (fun x => x) (fun _ => [blk b2 (.cells ([.int .i64 (((d : Nat) : Int))]).toArray 3), blk b1 (.cells ([.int .i64 (x.op), .int .i64 (x.n), .string (x.s), .slice (A) (x.x.length) (cp)]).toArray 53)]) (fun x => Hp.le (I3) x) (fun hk6 => ?_) ?_
 ·
  have hleM5 := Hp.le.refl (I3)
  refine JJ.region rfl fun rg => ?_
  refine JJ.move rg rfl rfl rfl ?_
  refine JJ.not rg rfl rfl rfl ?_
  refine JJ.move rg rfl rfl rfl ?_
  refine JJ.split 16 rfl (fun hg2_3 => ?_) (fun hg2_3 => ?_)
  ·
   have hg2_3b : (!(partsOk x.op)) = true := hg2_3
   replace hg2_3 := not_t hg2_3
   replace hg2_3b := hg2_3
   refine JJ.gskip rg rfl rfl ?_
   refine JJ.gskip rg rfl rfl ?_
   refine JJ.pick (b := true) rg rfl rfl rfl rfl ?_
   refine JJ.move rg rfl rfl rfl ?_
   refine JJ.gskip rg rfl rfl ?_
   refine JJ.gskip rg rfl rfl ?_
   refine JJ.gskip rg rfl rfl ?_
   refine JJ.gskip rg rfl rfl ?_
   refine JJ.gskip rg rfl rfl ?_
   refine JJ.pick (b := true) rg rfl rfl rfl rfl ?_
   refine JJ.regionEnd ?_
   refine JJ.keep _ ?_ (hk6 _ hleM5)
   exact ⟨congrArg (fun b => some (Value.bool b)) (show (true) = (!(partsOk x.op && decide (d ≠ 0) && decide ((x.x.length : Int) = partsN x.op))) from by first | (simp [*]; done) | (have e0 : d = 0 := (by omega); simp [*]; done) | (have e0 : d ≠ 0 := (by omega); simp [*]; done)), rfl, rfl, rfl, rfl, trivial⟩
  ·
   have hg2_3b : (!(partsOk x.op)) = false := hg2_3
   replace hg2_3 := not_f hg2_3
   replace hg2_3b := hg2_3
   refine JJ.loadL (v := .int .i64 (((d : Nat) : Int))) ty3 0 rg rfl rfl rfl rfl rfl ?_
   refine JJ.bin rg rfl rfl rfl rfl rfl ?_
   refine JJ.pick (b := false) rg rfl rfl rfl rfl ?_
   refine JJ.move rg rfl rfl rfl ?_
   refine JJ.split 20 rfl (fun hg2_7 => ?_) (fun hg2_7 => ?_)
   ·
    have hg2_7b : (decide ((((d : Nat) : Int) : Int) = 0)) = true := hg2_7
    replace hg2_7 := of_decide_eq_true hg2_7
    refine JJ.gskip rg rfl rfl ?_
    refine JJ.gskip rg rfl rfl ?_
    refine JJ.gskip rg rfl rfl ?_
    refine JJ.gskip rg rfl rfl ?_
    refine JJ.gskip rg rfl rfl ?_
    refine JJ.pick (b := true) rg rfl rfl rfl rfl ?_
    refine JJ.regionEnd ?_
    refine JJ.keep _ ?_ (hk6 _ hleM5)
    exact ⟨congrArg (fun b => some (Value.bool b)) (show (true) = (!(partsOk x.op && decide (d ≠ 0) && decide ((x.x.length : Int) = partsN x.op))) from by first | (simp [*]; done) | (have e0 : d = 0 := (by omega); simp [*]; done) | (have e0 : d ≠ 0 := (by omega); simp [*]; done)), rfl, rfl, rfl, rfl, trivial⟩
   ·
    have hg2_7b : (decide ((((d : Nat) : Int) : Int) = 0)) = false := hg2_7
    replace hg2_7 := of_decide_eq_false hg2_7
    refine JJ.fieldAddr (a' := ⟨b1, 3, none⟩) fo53_3 rg rfl rfl rfl rfl ?_
    refine JJ.loadL (v := .slice (A) (x.x.length) (cp)) ty33 1 rg rfl rfl rfl rfl rfl ?_
    refine JJ.lenSlice ss33 rg rfl rfl rfl ?_
    refine JJ.move rg rfl rfl rfl ?_
    refine JJ.bin rg rfl rfl rfl rfl rfl ?_
    refine JJ.pick (b := false) rg rfl rfl rfl rfl ?_
    refine JJ.regionEnd ?_
    refine JJ.keep _ ?_ (hk6 _ hleM5)
    exact ⟨congrArg (fun b => some (Value.bool b)) (show (!decide ((((x.x.length : Nat) : Int) : Int) = partsN x.op)) = (!(partsOk x.op && decide (d ≠ 0) && decide ((x.x.length : Int) = partsN x.op))) from by first | (simp [*]; done) | (have e0 : d = 0 := (by omega); simp [*]; done) | (have e0 : d ≠ 0 := (by omega); simp [*]; done)), rfl, rfl, rfl, rfl, trivial⟩
 ·
  intro I7 hle8
  replace hgl := hgl.mono hle8
  replace hx := hx.mono hle8
  refine JJ.cond2 rfl (fun hc2 => ?_) (fun hc2 => ?_)
  ·
   have hc2b : (!(partsOk x.op && decide (d ≠ 0) && decide ((x.x.length : Int) = partsN x.op))) = true := hc2
   replace hc2 := not_t hc2
   replace hc2b := hc2
   refine JJ.seq ?_
   refine JJ.region rfl fun rg => ?_
   refine JJ.assign rg rfl rfl rfl ?_
   refine JJ.regionEnd ?_
   refine JJ.ret1 rfl Try.func49 rfl rfl (fun h h_ => ⟨(), trivial, congrArg Value.bool (show (false) = x.ok d from by rw [Ex.ok_eq, Ex.okl_all, all_any]; first | (simp only [hc2, Bool.false_and, Bool.true_and]; done) | (simp only [hc2, hg15_2, Bool.false_and, Bool.true_and]; done)), trivial⟩)
  ·
   have hc2b : (!(partsOk x.op && decide (d ≠ 0) && decide ((x.x.length : Int) = partsN x.op))) = false := hc2
   replace hc2 := not_f hc2
   replace hc2b := hc2
   refine JJ.skip ?_
   refine JJ.seq ?_
   refine JJ.seq ?_
   refine JJ.region rfl fun rg => ?_
   refine JJ.fieldAddr (a' := ⟨b1, 0, none⟩) fo53_0 rg rfl rfl rfl rfl ?_
   refine JJ.loadL (v := .int .i64 (x.op)) ty3 1 rg rfl rfl rfl rfl rfl ?_
   refine JJ.fieldAddr (a' := ⟨b1, 1, none⟩) fo53_1 rg rfl rfl rfl rfl ?_
   refine JJ.loadL (v := .int .i64 (x.n)) ty2 1 rg rfl rfl rfl rfl rfl ?_
   refine JJ.fieldAddr (a' := ⟨b1, 2, none⟩) fo53_2 rg rfl rfl rfl rfl ?_
   refine JJ.loadL (v := .string (x.s)) ty9 1 rg rfl rfl rfl rfl rfl ?_
   refine JJ.build (cells := #[.int .i64 (x.op), .int .i64 (x.n), .string (x.s), .slice (none) (0) (0)]) zo53 so53 rg rfl rfl rfl rfl ?_
   refine JJ.alloc (cs := [.int .i64 0, .int .i64 0, .string (⟨#[]⟩), .slice (none) (0) (0)]) zo53 rfl rg rfl rfl fun b9 => ?_
   refine JJ.store (cs' := [.int .i64 (x.op), .int .i64 (x.n), .string (x.s), .slice (none) (0) (0)]) ty53 0 rg rfl rfl rfl rfl rfl rfl rfl rfl rfl rfl rfl ?_
   refine JJ.regionEnd ?_
   refine JJ.seq ?_
   refine JJ.region rfl fun rg => ?_
   refine JJ.fieldAddr (a' := ⟨b9, 0, none⟩) fo53_0 rg rfl rfl rfl rfl ?_
   refine JJ.loadL (v := .int .i64 (x.op)) ty3 0 rg rfl rfl rfl rfl rfl ?_
   refine JJ.regionEnd ?_
   refine JJ.cut (X := Hp) (fun _ => [(6, .bool (leafB x.op x.n x.s.data.toList)), (2, .pointer (some ⟨b1, 0, none⟩)), (3, .pointer (some ⟨b2, 0, none⟩)), (4, .bool false)]) (fun x => x) (fun _ => [blk b9 (.cells ([.int .i64 (x.op), .int .i64 (x.n), .string (x.s), .slice (none) (0) (0)]).toArray 53), blk b2 (.cells ([.int .i64 (((d : Nat) : Int))]).toArray 3), blk b1 (.cells ([.int .i64 (x.op), .int .i64 (x.n), .string (x.s), .slice (A) (x.x.length) (cp)]).toArray 53)]) (fun x => Hp.le (I7) x) (fun hk11 => ?_) ?_
   ·
    have hleM10 := Hp.le.refl (I7)
    refine JJ.block ?_
    refine JJ.seq ?_
    refine JJ.region rfl fun rg => ?_
    refine JJ.bin rg rfl rfl rfl rfl rfl ?_
    refine JJ.assign rg rfl rfl rfl ?_
    refine JJ.regionEnd ?_
    refine JJ.split 44 rfl (fun hc7 => ?_) (fun hc7 => ?_)
    ·
     have hc7b : (decide ((x.op : Int) = 1)) = true := hc7
     replace hc7 := of_decide_eq_true hc7
     refine JJ.cond (b := true) rfl ?_
     refine JJ.region rfl fun rg => ?_
     refine JJ.fieldAddr (a' := ⟨b9, 1, none⟩) fo53_1 rg rfl rfl rfl rfl ?_
     refine JJ.loadL (v := .int .i64 (x.n)) ty2 0 rg rfl rfl rfl rfl rfl ?_
     refine JJ.bin rg rfl rfl rfl rfl rfl ?_
     refine JJ.move rg rfl rfl rfl ?_
     refine JJ.split 49 rfl (fun hg8_4 => ?_) (fun hg8_4 => ?_)
     ·
      have hg8_4b : (decide ((0 : Int) ≤ x.n)) = true := hg8_4
      replace hg8_4 := of_decide_eq_true hg8_4
      refine JJ.fieldAddr (a' := ⟨b9, 1, none⟩) fo53_1 rg rfl rfl rfl rfl ?_
      refine JJ.loadL (v := .int .i64 (x.n)) ty2 0 rg rfl rfl rfl rfl rfl ?_
      refine JJ.bin rg rfl rfl rfl rfl rfl ?_
      refine JJ.pick (b := true) rg rfl rfl rfl rfl ?_
      refine JJ.move rg rfl rfl rfl ?_
      refine JJ.split 54 rfl (fun hg8_9 => ?_) (fun hg8_9 => ?_)
      ·
       have hg8_9b : (decide ((x.n : Int) ≤ 1000000000000)) = true := hg8_9
       replace hg8_9 := of_decide_eq_true hg8_9
       refine JJ.fieldAddr (a' := ⟨b9, 2, none⟩) fo53_2 rg rfl rfl rfl rfl ?_
       refine JJ.loadL (v := .string (x.s)) ty9 0 rg rfl rfl rfl rfl rfl ?_
       refine JJ.bin rg rfl rfl rfl rfl rfl ?_
       refine JJ.pick (b := true) rg rfl rfl rfl rfl ?_
       refine JJ.assign rg rfl rfl rfl ?_
       refine JJ.regionEnd ?_
       refine JJ.inBlock ?_
       refine JJ.keep _ ?_ (hk11 _ hleM10)
       exact ⟨congrArg (fun b => some (Value.bool b)) (show (decide (x.s.data.toList = [])) = (leafB x.op x.n x.s.data.toList) from by first | (simp [leafB, *]; done) | (have e1 : x.n = 0 ∨ x.n = 1 := (by omega); simp [leafB, *]; done) | (have e1 : ¬ (x.n = 0 ∨ x.n = 1) := (by omega); simp [leafB, *]; done) | (have e3 : x.s.size ≤ 64 := (by omega); simp [leafB, *]; done) | (have e3 : ¬ x.s.size ≤ 64 := (by omega); simp [leafB, *]; done) | (simp [leafB, *]; done) | (done)), rfl, rfl, rfl, trivial⟩
      ·
       have hg8_9b : (decide ((x.n : Int) ≤ 1000000000000)) = false := hg8_9
       replace hg8_9 := of_decide_eq_false hg8_9
       refine JJ.gskip rg rfl rfl ?_
       refine JJ.gskip rg rfl rfl ?_
       refine JJ.gskip rg rfl rfl ?_
       refine JJ.pick (b := false) rg rfl rfl rfl rfl ?_
       refine JJ.assign rg rfl rfl rfl ?_
       refine JJ.regionEnd ?_
       refine JJ.inBlock ?_
       refine JJ.keep _ ?_ (hk11 _ hleM10)
       exact ⟨congrArg (fun b => some (Value.bool b)) (show (false) = (leafB x.op x.n x.s.data.toList) from by first | (simp [leafB, *]; done) | (have e1 : x.n = 0 ∨ x.n = 1 := (by omega); simp [leafB, *]; done) | (have e1 : ¬ (x.n = 0 ∨ x.n = 1) := (by omega); simp [leafB, *]; done) | (have e3 : x.s.size ≤ 64 := (by omega); simp [leafB, *]; done) | (have e3 : ¬ x.s.size ≤ 64 := (by omega); simp [leafB, *]; done) | (simp [leafB, *]; done) | (done)), rfl, rfl, rfl, trivial⟩
     ·
      have hg8_4b : (decide ((0 : Int) ≤ x.n)) = false := hg8_4
      replace hg8_4 := of_decide_eq_false hg8_4
      refine JJ.gskip rg rfl rfl ?_
      refine JJ.gskip rg rfl rfl ?_
      refine JJ.gskip rg rfl rfl ?_
      refine JJ.pick (b := false) rg rfl rfl rfl rfl ?_
      refine JJ.move rg rfl rfl rfl ?_
      refine JJ.gskip rg rfl rfl ?_
      refine JJ.gskip rg rfl rfl ?_
      refine JJ.gskip rg rfl rfl ?_
      refine JJ.pick (b := false) rg rfl rfl rfl rfl ?_
      refine JJ.assign rg rfl rfl rfl ?_
      refine JJ.regionEnd ?_
      refine JJ.inBlock ?_
      refine JJ.keep _ ?_ (hk11 _ hleM10)
      exact ⟨congrArg (fun b => some (Value.bool b)) (show (false) = (leafB x.op x.n x.s.data.toList) from by first | (simp [leafB, *]; done) | (have e1 : x.n = 0 ∨ x.n = 1 := (by omega); simp [leafB, *]; done) | (have e1 : ¬ (x.n = 0 ∨ x.n = 1) := (by omega); simp [leafB, *]; done) | (have e3 : x.s.size ≤ 64 := (by omega); simp [leafB, *]; done) | (have e3 : ¬ x.s.size ≤ 64 := (by omega); simp [leafB, *]; done) | (simp [leafB, *]; done) | (done)), rfl, rfl, rfl, trivial⟩
    ·
     have hc7b : (decide ((x.op : Int) = 1)) = false := hc7
     replace hc7 := of_decide_eq_false hc7
     refine JJ.cond (b := false) rfl ?_
     refine JJ.seq ?_
     refine JJ.region rfl fun rg => ?_
     refine JJ.bin rg rfl rfl rfl rfl rfl ?_
     refine JJ.assign rg rfl rfl rfl ?_
     refine JJ.regionEnd ?_
     refine JJ.split 59 rfl (fun hc9 => ?_) (fun hc9 => ?_)
     ·
      have hc9b : (decide ((x.op : Int) = 3)) = true := hc9
      replace hc9 := of_decide_eq_true hc9
      refine JJ.cond (b := true) rfl ?_
      refine JJ.region rfl fun rg => ?_
      refine JJ.fieldAddr (a' := ⟨b9, 1, none⟩) fo53_1 rg rfl rfl rfl rfl ?_
      refine JJ.loadL (v := .int .i64 (x.n)) ty2 0 rg rfl rfl rfl rfl rfl ?_
      refine JJ.shr (z := x.n / 2) rg rfl rfl rfl rfl (by decide) (by show x.n.fdiv (2 ^ 1) = x.n / 2; rw [Int.fdiv_eq_ediv_of_nonneg _ (by decide)]; rfl) ?_
      refine JJ.bin rg rfl rfl rfl rfl rfl ?_
      refine JJ.move rg rfl rfl rfl ?_
      refine JJ.split 65 rfl (fun hg10_5 => ?_) (fun hg10_5 => ?_)
      ·
       have hg10_5b : (decide ((x.n / 2 : Int) = 0)) = true := hg10_5
       replace hg10_5 := of_decide_eq_true hg10_5
       refine JJ.fieldAddr (a' := ⟨b9, 2, none⟩) fo53_2 rg rfl rfl rfl rfl ?_
       refine JJ.loadL (v := .string (x.s)) ty9 0 rg rfl rfl rfl rfl rfl ?_
       refine JJ.bin rg rfl rfl rfl rfl rfl ?_
       refine JJ.pick (b := true) rg rfl rfl rfl rfl ?_
       refine JJ.assign rg rfl rfl rfl ?_
       refine JJ.regionEnd ?_
       refine JJ.inBlock ?_
       refine JJ.keep _ ?_ (hk11 _ hleM10)
       exact ⟨congrArg (fun b => some (Value.bool b)) (show (decide (x.s.data.toList = [])) = (leafB x.op x.n x.s.data.toList) from by first | (simp [leafB, *]; done) | (have e1 : x.n = 0 ∨ x.n = 1 := (by omega); simp [leafB, *]; done) | (have e1 : ¬ (x.n = 0 ∨ x.n = 1) := (by omega); simp [leafB, *]; done) | (have e3 : x.s.size ≤ 64 := (by omega); simp [leafB, *]; done) | (have e3 : ¬ x.s.size ≤ 64 := (by omega); simp [leafB, *]; done) | (simp [leafB, *]; done) | (done)), rfl, rfl, rfl, trivial⟩
      ·
       have hg10_5b : (decide ((x.n / 2 : Int) = 0)) = false := hg10_5
       replace hg10_5 := of_decide_eq_false hg10_5
       refine JJ.gskip rg rfl rfl ?_
       refine JJ.gskip rg rfl rfl ?_
       refine JJ.gskip rg rfl rfl ?_
       refine JJ.pick (b := false) rg rfl rfl rfl rfl ?_
       refine JJ.assign rg rfl rfl rfl ?_
       refine JJ.regionEnd ?_
       refine JJ.inBlock ?_
       refine JJ.keep _ ?_ (hk11 _ hleM10)
       exact ⟨congrArg (fun b => some (Value.bool b)) (show (false) = (leafB x.op x.n x.s.data.toList) from by first | (simp [leafB, *]; done) | (have e1 : x.n = 0 ∨ x.n = 1 := (by omega); simp [leafB, *]; done) | (have e1 : ¬ (x.n = 0 ∨ x.n = 1) := (by omega); simp [leafB, *]; done) | (have e3 : x.s.size ≤ 64 := (by omega); simp [leafB, *]; done) | (have e3 : ¬ x.s.size ≤ 64 := (by omega); simp [leafB, *]; done) | (simp [leafB, *]; done) | (done)), rfl, rfl, rfl, trivial⟩
     ·
      have hc9b : (decide ((x.op : Int) = 3)) = false := hc9
      replace hc9 := of_decide_eq_false hc9
      refine JJ.cond (b := false) rfl ?_
      refine JJ.seq ?_
      refine JJ.region rfl fun rg => ?_
      refine JJ.bin rg rfl rfl rfl rfl rfl ?_
      refine JJ.assign rg rfl rfl rfl ?_
      refine JJ.regionEnd ?_
      refine JJ.split 70 rfl (fun hc11 => ?_) (fun hc11 => ?_)
      ·
       have hc11b : (decide ((x.op : Int) = 2)) = true := hc11
       replace hc11 := of_decide_eq_true hc11
       refine JJ.cond (b := true) rfl ?_
       refine JJ.region rfl fun rg => ?_
       refine JJ.fieldAddr (a' := ⟨b9, 2, none⟩) fo53_2 rg rfl rfl rfl rfl ?_
       refine JJ.loadL (v := .string (x.s)) ty9 0 rg rfl rfl rfl rfl rfl ?_
       refine JJ.lenString st9 rg rfl rfl rfl ?_
       refine JJ.bin rg rfl rfl rfl rfl rfl ?_
       refine JJ.move rg rfl rfl rfl ?_
       refine JJ.split 76 rfl (fun hg12_5 => ?_) (fun hg12_5 => ?_)
       ·
        have hg12_5b : (decide ((((x.s).size : Int) : Int) ≤ 64)) = true := hg12_5
        replace hg12_5 := of_decide_eq_true hg12_5
        refine JJ.fieldAddr (a' := ⟨b9, 1, none⟩) fo53_1 rg rfl rfl rfl rfl ?_
        refine JJ.loadL (v := .int .i64 (x.n)) ty2 0 rg rfl rfl rfl rfl rfl ?_
        refine JJ.bin rg rfl rfl rfl rfl rfl ?_
        refine JJ.pick (b := true) rg rfl rfl rfl rfl ?_
        refine JJ.assign rg rfl rfl rfl ?_
        refine JJ.regionEnd ?_
        refine JJ.inBlock ?_
        refine JJ.keep _ ?_ (hk11 _ hleM10)
        exact ⟨congrArg (fun b => some (Value.bool b)) (show (decide ((x.n : Int) = 0)) = (leafB x.op x.n x.s.data.toList) from by first | (simp [leafB, *]; done) | (have e1 : x.n = 0 ∨ x.n = 1 := (by omega); simp [leafB, *]; done) | (have e1 : ¬ (x.n = 0 ∨ x.n = 1) := (by omega); simp [leafB, *]; done) | (have e3 : x.s.size ≤ 64 := (by omega); simp [leafB, *]; done) | (have e3 : ¬ x.s.size ≤ 64 := (by omega); simp [leafB, *]; done) | (simp [leafB, *]; done) | (done)), rfl, rfl, rfl, trivial⟩
       ·
        have hg12_5b : (decide ((((x.s).size : Int) : Int) ≤ 64)) = false := hg12_5
        replace hg12_5 := of_decide_eq_false hg12_5
        refine JJ.gskip rg rfl rfl ?_
        refine JJ.gskip rg rfl rfl ?_
        refine JJ.gskip rg rfl rfl ?_
        refine JJ.pick (b := false) rg rfl rfl rfl rfl ?_
        refine JJ.assign rg rfl rfl rfl ?_
        refine JJ.regionEnd ?_
        refine JJ.inBlock ?_
        refine JJ.keep _ ?_ (hk11 _ hleM10)
        exact ⟨congrArg (fun b => some (Value.bool b)) (show (false) = (leafB x.op x.n x.s.data.toList) from by first | (simp [leafB, *]; done) | (have e1 : x.n = 0 ∨ x.n = 1 := (by omega); simp [leafB, *]; done) | (have e1 : ¬ (x.n = 0 ∨ x.n = 1) := (by omega); simp [leafB, *]; done) | (have e3 : x.s.size ≤ 64 := (by omega); simp [leafB, *]; done) | (have e3 : ¬ x.s.size ≤ 64 := (by omega); simp [leafB, *]; done) | (simp [leafB, *]; done) | (done)), rfl, rfl, rfl, trivial⟩
      ·
       have hc11b : (decide ((x.op : Int) = 2)) = false := hc11
       replace hc11 := of_decide_eq_false hc11
       refine JJ.cond (b := false) rfl ?_
       refine JJ.seq ?_
       refine JJ.region rfl fun rg => ?_
       refine JJ.bin rg rfl rfl rfl rfl rfl ?_
       refine JJ.assign rg rfl rfl rfl ?_
       refine JJ.regionEnd ?_
       refine JJ.split 81 rfl (fun hc13 => ?_) (fun hc13 => ?_)
       ·
        have hc13b : (decide ((x.op : Int) = 4)) = true := hc13
        replace hc13 := of_decide_eq_true hc13
        refine JJ.cond (b := true) rfl ?_
        refine JJ.region rfl fun rg => ?_
        refine JJ.fieldAddr (a' := ⟨b9, 2, none⟩) fo53_2 rg rfl rfl rfl rfl ?_
        refine JJ.loadL (v := .string (x.s)) ty9 0 rg rfl rfl rfl rfl rfl ?_
        refine JJ.callp bo47 rg rfl rfl rfl rfl (Name _ x.s hgl) fun _ I14 hle15 _ => ?_
        replace hgl := hgl.mono hle15
        replace hx := hx.mono hle15
        replace hleM10 := hleM10.trans hle15
        refine JJ.move rg rfl rfl rfl ?_
        refine JJ.split 86 rfl (fun hg14_4 => ?_) (fun hg14_4 => ?_)
        ·
         have hg14_4b : (nameB x.s.data.toList) = true := hg14_4
         refine JJ.fieldAddr (a' := ⟨b9, 1, none⟩) fo53_1 rg rfl rfl rfl rfl ?_
         refine JJ.loadL (v := .int .i64 (x.n)) ty2 0 rg rfl rfl rfl rfl rfl ?_
         refine JJ.bin rg rfl rfl rfl rfl rfl ?_
         refine JJ.pick (b := true) rg rfl rfl rfl rfl ?_
         refine JJ.assign rg rfl rfl rfl ?_
         refine JJ.regionEnd ?_
         refine JJ.inBlock ?_
         refine JJ.keep _ ?_ (hk11 _ hleM10)
         exact ⟨congrArg (fun b => some (Value.bool b)) (show (decide ((x.n : Int) = 0)) = (leafB x.op x.n x.s.data.toList) from by first | (simp [leafB, *]; done) | (have e1 : x.n = 0 ∨ x.n = 1 := (by omega); simp [leafB, *]; done) | (have e1 : ¬ (x.n = 0 ∨ x.n = 1) := (by omega); simp [leafB, *]; done) | (have e3 : x.s.size ≤ 64 := (by omega); simp [leafB, *]; done) | (have e3 : ¬ x.s.size ≤ 64 := (by omega); simp [leafB, *]; done) | (simp [leafB, *]; done) | (done)), rfl, rfl, rfl, trivial⟩
        ·
         have hg14_4b : (nameB x.s.data.toList) = false := hg14_4
         refine JJ.gskip rg rfl rfl ?_
         refine JJ.gskip rg rfl rfl ?_
         refine JJ.gskip rg rfl rfl ?_
         refine JJ.pick (b := false) rg rfl rfl rfl rfl ?_
         refine JJ.assign rg rfl rfl rfl ?_
         refine JJ.regionEnd ?_
         refine JJ.inBlock ?_
         refine JJ.keep _ ?_ (hk11 _ hleM10)
         exact ⟨congrArg (fun b => some (Value.bool b)) (show (false) = (leafB x.op x.n x.s.data.toList) from by first | (simp [leafB, *]; done) | (have e1 : x.n = 0 ∨ x.n = 1 := (by omega); simp [leafB, *]; done) | (have e1 : ¬ (x.n = 0 ∨ x.n = 1) := (by omega); simp [leafB, *]; done) | (have e3 : x.s.size ≤ 64 := (by omega); simp [leafB, *]; done) | (have e3 : ¬ x.s.size ≤ 64 := (by omega); simp [leafB, *]; done) | (simp [leafB, *]; done) | (done)), rfl, rfl, rfl, trivial⟩
       ·
        have hc13b : (decide ((x.op : Int) = 4)) = false := hc13
        replace hc13 := of_decide_eq_false hc13
        refine JJ.cond (b := false) rfl ?_
        refine JJ.region rfl fun rg => ?_
        refine JJ.fieldAddr (a' := ⟨b9, 2, none⟩) fo53_2 rg rfl rfl rfl rfl ?_
        refine JJ.loadL (v := .string (x.s)) ty9 0 rg rfl rfl rfl rfl rfl ?_
        refine JJ.bin rg rfl rfl rfl rfl rfl ?_
        refine JJ.move rg rfl rfl rfl ?_
        refine JJ.split 39 rfl (fun hg6_4 => ?_) (fun hg6_4 => ?_)
        ·
         have hg6_4b : (decide (x.s.data.toList = [])) = true := hg6_4
         replace hg6_4 := of_decide_eq_true hg6_4
         refine JJ.fieldAddr (a' := ⟨b9, 1, none⟩) fo53_1 rg rfl rfl rfl rfl ?_
         refine JJ.loadL (v := .int .i64 (x.n)) ty2 0 rg rfl rfl rfl rfl rfl ?_
         refine JJ.bin rg rfl rfl rfl rfl rfl ?_
         refine JJ.pick (b := true) rg rfl rfl rfl rfl ?_
         refine JJ.assign rg rfl rfl rfl ?_
         refine JJ.regionEnd ?_
         refine JJ.inBlock ?_
         refine JJ.keep _ ?_ (hk11 _ hleM10)
         exact ⟨congrArg (fun b => some (Value.bool b)) (show (decide ((x.n : Int) = 0)) = (leafB x.op x.n x.s.data.toList) from by first | (simp [leafB, *]; done) | (have e1 : x.n = 0 ∨ x.n = 1 := (by omega); simp [leafB, *]; done) | (have e1 : ¬ (x.n = 0 ∨ x.n = 1) := (by omega); simp [leafB, *]; done) | (have e3 : x.s.size ≤ 64 := (by omega); simp [leafB, *]; done) | (have e3 : ¬ x.s.size ≤ 64 := (by omega); simp [leafB, *]; done) | (simp [leafB, *]; done) | (done)), rfl, rfl, rfl, trivial⟩
        ·
         have hg6_4b : (decide (x.s.data.toList = [])) = false := hg6_4
         replace hg6_4 := of_decide_eq_false hg6_4
         refine JJ.gskip rg rfl rfl ?_
         refine JJ.gskip rg rfl rfl ?_
         refine JJ.gskip rg rfl rfl ?_
         refine JJ.pick (b := false) rg rfl rfl rfl rfl ?_
         refine JJ.assign rg rfl rfl rfl ?_
         refine JJ.regionEnd ?_
         refine JJ.inBlock ?_
         refine JJ.keep _ ?_ (hk11 _ hleM10)
         exact ⟨congrArg (fun b => some (Value.bool b)) (show (false) = (leafB x.op x.n x.s.data.toList) from by first | (simp [leafB, *]; done) | (have e1 : x.n = 0 ∨ x.n = 1 := (by omega); simp [leafB, *]; done) | (have e1 : ¬ (x.n = 0 ∨ x.n = 1) := (by omega); simp [leafB, *]; done) | (have e3 : x.s.size ≤ 64 := (by omega); simp [leafB, *]; done) | (have e3 : ¬ x.s.size ≤ 64 := (by omega); simp [leafB, *]; done) | (simp [leafB, *]; done) | (done)), rfl, rfl, rfl, trivial⟩
   ·
    intro I12 hle13
    replace hgl := hgl.mono hle13
    replace hx := hx.mono hle13
    refine JJ.seq ?_
    refine JJ.region rfl fun rg => ?_
    refine JJ.move rg rfl rfl rfl ?_
    refine JJ.move rg rfl rfl rfl ?_
    refine JJ.split 92 rfl (fun hg15_2 => ?_) (fun hg15_2 => ?_)
    ·
     have hg15_2b : (leafB x.op x.n x.s.data.toList) = true := hg15_2
     refine JJ.fieldAddr (a' := ⟨b1, 3, none⟩) fo53_3 rg rfl rfl rfl rfl ?_
     refine JJ.loadL (v := .slice (A) (x.x.length) (cp)) ty33 2 rg rfl rfl rfl rfl rfl ?_
     have hd0 : d ≠ 0 := by simp only [Bool.and_eq_true, decide_eq_true_eq] at hc2; exact hc2.1.2
     refine JJ.pull 1 rfl rfl ?_
     refine JJ.share fun I16 hle17 hb18 => ?_
     replace hgl := hgl.mono hle17
     replace hx := hx.mono hle17
     have hrow19 : Row I16 ⟨b2, 0, none⟩ [.int .i64 (((d : Nat) : Int))] := Row.of hb18 0
     clear hb18
     refine JJ.makeFunc rg rfl rfl [].toArray [.pointer (some ⟨b2, 0, none⟩)].toArray (fun a hE => by simp []) (fun a hE => by simp [hE.ev (o := .tmp 3) (v := .pointer (some ⟨b2, 0, none⟩)) rfl]) ?_
     refine JJ.callp bo63 rg rfl rfl rfl rfl (containsFunc_Expr _ k A x.x.length cp x.x (fun a => !a.ok (d - 1)) 64 [] [.pointer (some ⟨b2, 0, none⟩)] (by omega) hx bo64 (fun I1 hl cs a ha hr => expr1 I1 k ih cs a d b2 hr (hgl.mono hl) (by have := Ex.szl_mem ha; omega) (by omega) hd2 (hrow19.mono hl))) fun _ I20 hle21 _ => ?_
     replace hgl := hgl.mono hle21
     replace hx := hx.mono hle21
     replace hrow19 := hrow19.mono hle21
     refine JJ.not rg rfl rfl rfl ?_
     refine JJ.pick (b := true) rg rfl rfl rfl rfl ?_
     refine JJ.assign rg rfl rfl rfl ?_
     refine JJ.regionEnd ?_
     refine JJ.ret1 rfl Try.func49 rfl rfl (fun h h_ => ⟨(), trivial, congrArg Value.bool (show (!(x.x.any (fun a => !a.ok (d - 1)))) = x.ok d from by rw [Ex.ok_eq, Ex.okl_all, all_any]; first | (simp only [hc2, Bool.false_and, Bool.true_and]; done) | (simp only [hc2, hg15_2, Bool.false_and, Bool.true_and]; done)), trivial⟩)
    ·
     have hg15_2b : (leafB x.op x.n x.s.data.toList) = false := hg15_2
     refine JJ.gskip rg rfl rfl ?_
     refine JJ.gskip rg rfl rfl ?_
     refine JJ.gskip rg rfl rfl ?_
     refine JJ.gskip rg rfl rfl ?_
     refine JJ.gskip rg rfl rfl ?_
     refine JJ.pick (b := false) rg rfl rfl rfl rfl ?_
     refine JJ.assign rg rfl rfl rfl ?_
     refine JJ.regionEnd ?_
     refine JJ.ret1 rfl Try.func49 rfl rfl (fun h h_ => ⟨(), trivial, congrArg Value.bool (show (false) = x.ok d from by rw [Ex.ok_eq, Ex.okl_all, all_any]; first | (simp only [hc2, Bool.false_and, Bool.true_and]; done) | (simp only [hc2, hg15_2, Bool.false_and, Bool.true_and]; done)), trivial⟩)
end Wc
end Go.Proofs.Ytlcdafeoionnhaa
