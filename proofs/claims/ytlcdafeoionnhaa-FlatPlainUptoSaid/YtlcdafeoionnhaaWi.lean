/- Walks of functions, printed by a program of this session (wip/tool/eng.py). -/
import Derived.Test.YtlcdafeoionnhaaProg
import Derived.Test.YtlcdafeoionnhaaScope
import Derived.Test.YtlcdafeoionnhaaWb
import Derived.Test.YtlcdafeoionnhaaWc
namespace Go.Proofs.Ytlcdafeoionnhaa
open Go
set_option linter.unusedVariables false
set_option linter.unusedSimpArgs false
namespace Wi
theorem eo87 : elemO Try.prog 87 = some (85, 1) := by kernel_rfl
theorem sm85 : smapT Try.prog 85 = some 3 := by kernel_rfl
theorem ss87 : isSliceT Try.prog 87 = true := by kernel_rfl
theorem ty85 : tyI Try.prog 85 = some (false, 1) := by kernel_rfl
theorem zo3 : zeroOf Try.prog 3 = some (.int .i64 0) := by kernel_rfl
open Wb Wc
theorem kind (I : Hp) (A : Option Addr) (n cp : Nat) (sc : List IMap) (s : ByteArray) (hn : n ≤ 4294967296) : Fn Try.prog 72 #[.slice A n cp, .string s] I [scp 85 A n cp sc] (Ret (X := Unit) (fun _ _ => True) (fun _ => .int .i64 (kindOf s sc)) fun _ => [scp 85 A n cp sc]) := by
 refine Fn.of (args := [_, _]) Try.func72 rfl rfl ?_
 refine JJ.exOpen fun bs => ?_
 refine JJ.pure fun hbs => ?_
 obtain ⟨hbs, rfl⟩ := hbs
 refine JJ.seq ?_
 refine JJ.region rfl fun rg => ?_
 refine JJ.assign rg rfl rfl rfl ?_
 refine JJ.regionEnd ?_
 refine JJ.seq ?_
 refine JJ.seq ?_
 refine JJ.region rfl fun rg => ?_
 refine JJ.move rg rfl rfl rfl ?_
 refine JJ.lenSlice ss87 rg rfl rfl rfl ?_
 refine JJ.move rg rfl rfl rfl ?_
 refine JJ.regionEnd ?_
 refine JJ.block ?_
 refine JJ.induct (X := Nat) (fun j => [(1, .string s), (8, .slice A sc.length cp), (9, .int .i64 sc.length), (10, .int .i64 j)]) (fun _ => I) (fun _ => own 85 1 A sc.length cp (bs.map fun b => Value.map (some b)) :: (zipM bs sc ++ [])) (fun j => j ≤ sc.length ∧ kindOf s sc = kindOf s (sc.drop j)) (fun j => sc.length - j) 0 ⟨Nat.zero_le _, rfl⟩ (fun h => JJ.keep _ (by repeat (first | exact trivial | refine ⟨rfl, ?_⟩)) h) ?_
 rintro j ⟨hj, hk⟩ ih
 (try dsimp only at hj hk ih ⊢)
 refine JJ.seq ?_
 refine JJ.region rfl fun rg => ?_
 refine JJ.bin rg rfl rfl rfl rfl rfl ?_
 refine JJ.regionEnd ?_
 refine JJ.seq ?_
 refine JJ.cond2 rfl (fun hc2 => ?_) (fun hc2 => ?_)
 ·
  have hc2b : (decide ((((j : Nat) : Int) : Int) < ((sc.length : Nat) : Int))) = true := hc2
  replace hc2 := of_decide_eq_true hc2
  have hlt : j < sc.length := by omega
  obtain ⟨m, hm⟩ : ∃ m, sc[j]? = some m := ⟨_, List.getElem?_eq_getElem hlt⟩
  obtain ⟨b, hb⟩ : ∃ b, bs[j]? = some b := ⟨_, List.getElem?_eq_getElem (by omega)⟩
  have hkd := kindOf_drop (s := s) hm
  refine JJ.skip ?_
  refine JJ.seq ?_
  refine JJ.block ?_
  refine JJ.seq ?_
  refine JJ.region rfl fun rg => ?_
  refine JJ.ownSome (by omega) fun gg hA hcap hol => ?_
  subst hA
  refine JJ.indexAddr (a' := ⟨gg, j, none⟩) eo87 rg rfl rfl rfl rfl (by omega) (by omega) (by rw [Addr.add_lit]; simp) ?_
  refine JJ.loadOwn (v := .map (some b)) ty85 0 rg rfl rfl rfl rfl (by unfold ldV; simp [hb]) ?_
  refine JJ.assign rg rfl rfl rfl ?_
  refine JJ.regionEnd ?_
  refine JJ.seq ?_
  refine JJ.region rfl fun rg => ?_
  refine JJ.move rg rfl rfl rfl ?_
  refine JJ.move rg rfl rfl rfl ?_
  refine JJ.lookup (v := .int .i64 (m.get s)) sm85 zo3 (j + 1) rg rfl rfl rfl rfl (by rw [List.getElem?_cons_succ, List.append_nil]; exact zipM_get hb hm) (IMap.toS_find s m) ?_
  refine JJ.assign rg rfl rfl rfl ?_
  refine JJ.regionEnd ?_
  refine JJ.seq ?_
  refine JJ.region rfl fun rg => ?_
  refine JJ.move rg rfl rfl rfl ?_
  refine JJ.bin rg rfl rfl rfl rfl rfl ?_
  refine JJ.regionEnd ?_
  refine JJ.cond2 rfl (fun hc5 => ?_) (fun hc5 => ?_)
  ·
   have hc5b : (!decide ((m.get s : Int) = 0)) = true := hc5
   replace hc5 := not_t hc5
   replace hc5b := hc5
   replace hc5 := of_decide_eq_false hc5
   refine JJ.seq ?_
   refine JJ.region rfl fun rg => ?_
   refine JJ.move rg rfl rfl rfl ?_
   refine JJ.assign rg rfl rfl rfl ?_
   refine JJ.regionEnd ?_
   refine JJ.ret1 rfl Try.func72 rfl rfl fun h q => ⟨(), trivial, congrArg (Value.int .i64) (show (m.get s : Int) = kindOf s sc from (by rw [hk, hkd, if_neg (by omega)])), Sat.close (L := []) bs (Sat.pure ⟨hbs, rfl⟩ ?_)⟩
   simpa using q
  ·
   have hc5b : (!decide ((m.get s : Int) = 0)) = false := hc5
   replace hc5 := not_f hc5
   replace hc5b := hc5
   replace hc5 := of_decide_eq_true hc5
   refine JJ.skip ?_
   refine JJ.inBlock ?_
   refine JJ.region rfl fun rg => ?_
   refine JJ.binI (z := ((j + 1 : Nat) : Int)) rg rfl rfl rfl rfl rfl (wrap_to (by omega) (by omega) (by omega)) ?_
   refine JJ.move rg rfl rfl rfl ?_
   refine JJ.regionEnd ?_
   refine JJ.keep _ ?_ (ih (j + 1) ⟨hlt, by rw [hk, hkd, if_pos (by omega)]⟩ (by omega))
   exact ⟨rfl, rfl, rfl, rfl, trivial⟩
 ·
  have hc2b : (decide ((((j : Nat) : Int) : Int) < ((sc.length : Nat) : Int))) = false := hc2
  replace hc2 := of_decide_eq_false hc2
  obtain rfl : j = sc.length := by omega
  rw [List.drop_length] at hk
  refine JJ.exit rfl ?_
  refine JJ.seq ?_
  refine JJ.region rfl fun rg => ?_
  refine JJ.assign rg rfl rfl rfl ?_
  refine JJ.regionEnd ?_
  refine JJ.ret1 rfl Try.func72 rfl rfl fun h q => ⟨(), trivial, congrArg (Value.int .i64) (show (0 : Int) = kindOf s sc from hk.symm), Sat.close (L := []) bs (Sat.pure ⟨hbs, rfl⟩ ?_)⟩
  simpa using q
theorem is_ (I : Hp) (b : Bool) (k : Int) : Fn Try.prog 82 #[.bool b, .int .i64 k] I [] (Ret (X := Unit) (fun _ _ => True) (fun _ => .tuple #[.int .i64 (isK b k).1, .int .i64 (isK b k).2]) fun _ => []) := by
 refine Fn.of (args := [_, _]) Try.func82 rfl rfl ?_
 refine JJ.seq ?_
 refine JJ.region rfl fun rg => ?_
 refine JJ.assign rg rfl rfl rfl ?_
 refine JJ.assign rg rfl rfl rfl ?_
 refine JJ.regionEnd ?_
 refine JJ.seq ?_
 refine JJ.seq ?_
 refine JJ.region rfl fun rg => ?_
 refine JJ.move rg rfl rfl rfl ?_
 refine JJ.not rg rfl rfl rfl ?_
 refine JJ.regionEnd ?_
 refine JJ.cond2 rfl (fun hc1 => ?_) (fun hc1 => ?_)
 ·
  have hc1b : (!b) = true := hc1
  replace hc1 := not_t hc1
  replace hc1b := hc1
  refine JJ.seq ?_
  refine JJ.region rfl fun rg => ?_
  refine JJ.assign rg rfl rfl rfl ?_
  refine JJ.assign rg rfl rfl rfl ?_
  refine JJ.regionEnd ?_
  refine JJ.ret2 rfl Try.func82 rfl rfl rfl (fun h h_ => ⟨(), trivial, (by simp [isK, *]), trivial⟩)
 ·
  have hc1b : (!b) = false := hc1
  replace hc1 := not_f hc1
  replace hc1b := hc1
  refine JJ.skip ?_
  refine JJ.seq ?_
  refine JJ.region rfl fun rg => ?_
  refine JJ.move rg rfl rfl rfl ?_
  refine JJ.assign rg rfl rfl rfl ?_
  refine JJ.assign rg rfl rfl rfl ?_
  refine JJ.regionEnd ?_
  refine JJ.ret2 rfl Try.func82 rfl rfl rfl (fun h h_ => ⟨(), trivial, (by simp [isK, *]), trivial⟩)
theorem wants (I : Hp) (op i k : Int) : Fn Try.prog 73 #[.int .i64 (op), .int .i64 (i), .int .i64 (k)] I [] (RB (wantsK op i k)) := by
 refine Fn.of (args := [_, _, _]) Try.func73 rfl rfl ?_
 refine JJ.seq ?_
 refine JJ.region rfl fun rg => ?_
 refine JJ.assign rg rfl rfl rfl ?_
 refine JJ.regionEnd ?_
 refine JJ.seq ?_
 refine JJ.seq ?_
 refine JJ.region rfl fun rg => ?_
 refine JJ.move rg rfl rfl rfl ?_
 refine JJ.regionEnd ?_
 refine JJ.block ?_
 refine JJ.seq ?_
 refine JJ.region rfl fun rg => ?_
 refine JJ.bin rg rfl rfl rfl rfl rfl ?_
 refine JJ.assign rg rfl rfl rfl ?_
 refine JJ.regionEnd ?_
 refine JJ.split 8 rfl (fun hc2 => ?_) (fun hc2 => ?_)
 ·
  have hc2b : (decide ((op : Int) = 12)) = true := hc2
  replace hc2 := of_decide_eq_true hc2
  refine JJ.cond (b := true) rfl ?_
  refine JJ.seq ?_
  refine JJ.region rfl fun rg => ?_
  refine JJ.assign rg rfl rfl rfl ?_
  refine JJ.regionEnd ?_
  refine JJ.ret1 rfl Try.func73 rfl rfl (fun h h_ => ⟨(), trivial, congrArg (Value.bool) (show (true) = (wantsK op i k) from by simp [wantsK, *]), trivial⟩)
 ·
  have hc2b : (decide ((op : Int) = 12)) = false := hc2
  replace hc2 := of_decide_eq_false hc2
  refine JJ.cond (b := false) rfl ?_
  refine JJ.seq ?_
  refine JJ.seq ?_
  refine JJ.region rfl fun rg => ?_
  refine JJ.bin rg rfl rfl rfl rfl rfl ?_
  refine JJ.assign rg rfl rfl rfl ?_
  refine JJ.regionEnd ?_
  refine JJ.split 10 rfl (fun hc4 => ?_) (fun hc4 => ?_)
  ·
   have hc4b : (decide ((op : Int) = 13)) = true := hc4
   replace hc4 := of_decide_eq_true hc4
   refine JJ.cond (b := true) rfl ?_
   refine JJ.skip ?_
   refine JJ.cond (b := true) rfl ?_
   refine JJ.seq ?_
   refine JJ.region rfl fun rg => ?_
   refine JJ.move rg rfl rfl rfl ?_
   refine JJ.bin rg rfl rfl rfl rfl rfl ?_
   refine JJ.assign rg rfl rfl rfl ?_
   refine JJ.regionEnd ?_
   refine JJ.ret1 rfl Try.func73 rfl rfl (fun h h_ => ⟨(), trivial, congrArg (Value.bool) (show (decide ((k : Int) = 3)) = (wantsK op i k) from by simp [wantsK, *]), trivial⟩)
  ·
   have hc4b : (decide ((op : Int) = 13)) = false := hc4
   replace hc4 := of_decide_eq_false hc4
   refine JJ.cond (b := false) rfl ?_
   refine JJ.region rfl fun rg => ?_
   refine JJ.bin rg rfl rfl rfl rfl rfl ?_
   refine JJ.assign rg rfl rfl rfl ?_
   refine JJ.regionEnd ?_
   refine JJ.split 10 rfl (fun hc5 => ?_) (fun hc5 => ?_)
   ·
    have hc5b : (decide ((op : Int) = 18)) = true := hc5
    replace hc5 := of_decide_eq_true hc5
    refine JJ.cond (b := true) rfl ?_
    refine JJ.seq ?_
    refine JJ.region rfl fun rg => ?_
    refine JJ.move rg rfl rfl rfl ?_
    refine JJ.bin rg rfl rfl rfl rfl rfl ?_
    refine JJ.assign rg rfl rfl rfl ?_
    refine JJ.regionEnd ?_
    refine JJ.ret1 rfl Try.func73 rfl rfl (fun h h_ => ⟨(), trivial, congrArg (Value.bool) (show (decide ((k : Int) = 3)) = (wantsK op i k) from by simp [wantsK, *]), trivial⟩)
   ·
    have hc5b : (decide ((op : Int) = 18)) = false := hc5
    replace hc5 := of_decide_eq_false hc5
    refine JJ.cond (b := false) rfl ?_
    refine JJ.seq ?_
    refine JJ.seq ?_
    refine JJ.region rfl fun rg => ?_
    refine JJ.bin rg rfl rfl rfl rfl rfl ?_
    refine JJ.assign rg rfl rfl rfl ?_
    refine JJ.regionEnd ?_
    refine JJ.split 15 rfl (fun hc7 => ?_) (fun hc7 => ?_)
    ·
     have hc7b : (decide ((op : Int) = 3)) = true := hc7
     replace hc7 := of_decide_eq_true hc7
     refine JJ.cond (b := true) rfl ?_
     refine JJ.skip ?_
     refine JJ.cond (b := true) rfl ?_
     refine JJ.seq ?_
     refine JJ.region rfl fun rg => ?_
     refine JJ.move rg rfl rfl rfl ?_
     refine JJ.bin rg rfl rfl rfl rfl rfl ?_
     refine JJ.regionEnd ?_
     refine JJ.cond2 rfl (fun hc9 => ?_) (fun hc9 => ?_)
     ·
      have hc9b : (decide ((i : Int) = 1)) = true := hc9
      replace hc9 := of_decide_eq_true hc9
      refine JJ.seq ?_
      refine JJ.region rfl fun rg => ?_
      refine JJ.move rg rfl rfl rfl ?_
      refine JJ.bin rg rfl rfl rfl rfl rfl ?_
      refine JJ.assign rg rfl rfl rfl ?_
      refine JJ.regionEnd ?_
      refine JJ.ret1 rfl Try.func73 rfl rfl (fun h h_ => ⟨(), trivial, congrArg (Value.bool) (show (decide ((k : Int) = 1)) = (wantsK op i k) from by simp [wantsK, *]), trivial⟩)
     ·
      have hc9b : (decide ((i : Int) = 1)) = false := hc9
      replace hc9 := of_decide_eq_false hc9
      refine JJ.skip ?_
      refine JJ.inBlock ?_
      refine JJ.seq ?_
      refine JJ.region rfl fun rg => ?_
      refine JJ.move rg rfl rfl rfl ?_
      refine JJ.bin rg rfl rfl rfl rfl rfl ?_
      refine JJ.assign rg rfl rfl rfl ?_
      refine JJ.regionEnd ?_
      refine JJ.ret1 rfl Try.func73 rfl rfl (fun h h_ => ⟨(), trivial, congrArg (Value.bool) (show (decide ((k : Int) = 2)) = (wantsK op i k) from by simp [wantsK, *]), trivial⟩)
    ·
     have hc7b : (decide ((op : Int) = 3)) = false := hc7
     replace hc7 := of_decide_eq_false hc7
     refine JJ.cond (b := false) rfl ?_
     refine JJ.region rfl fun rg => ?_
     refine JJ.bin rg rfl rfl rfl rfl rfl ?_
     refine JJ.assign rg rfl rfl rfl ?_
     refine JJ.regionEnd ?_
     refine JJ.split 15 rfl (fun hc8 => ?_) (fun hc8 => ?_)
     ·
      have hc8b : (decide ((op : Int) = 5)) = true := hc8
      replace hc8 := of_decide_eq_true hc8
      refine JJ.cond (b := true) rfl ?_
      refine JJ.seq ?_
      refine JJ.region rfl fun rg => ?_
      refine JJ.move rg rfl rfl rfl ?_
      refine JJ.bin rg rfl rfl rfl rfl rfl ?_
      refine JJ.regionEnd ?_
      refine JJ.cond2 rfl (fun hc9 => ?_) (fun hc9 => ?_)
      ·
       have hc9b : (decide ((i : Int) = 1)) = true := hc9
       replace hc9 := of_decide_eq_true hc9
       refine JJ.seq ?_
       refine JJ.region rfl fun rg => ?_
       refine JJ.move rg rfl rfl rfl ?_
       refine JJ.bin rg rfl rfl rfl rfl rfl ?_
       refine JJ.assign rg rfl rfl rfl ?_
       refine JJ.regionEnd ?_
       refine JJ.ret1 rfl Try.func73 rfl rfl (fun h h_ => ⟨(), trivial, congrArg (Value.bool) (show (decide ((k : Int) = 1)) = (wantsK op i k) from by simp [wantsK, *]), trivial⟩)
      ·
       have hc9b : (decide ((i : Int) = 1)) = false := hc9
       replace hc9 := of_decide_eq_false hc9
       refine JJ.skip ?_
       refine JJ.inBlock ?_
       refine JJ.seq ?_
       refine JJ.region rfl fun rg => ?_
       refine JJ.move rg rfl rfl rfl ?_
       refine JJ.bin rg rfl rfl rfl rfl rfl ?_
       refine JJ.assign rg rfl rfl rfl ?_
       refine JJ.regionEnd ?_
       refine JJ.ret1 rfl Try.func73 rfl rfl (fun h h_ => ⟨(), trivial, congrArg (Value.bool) (show (decide ((k : Int) = 2)) = (wantsK op i k) from by simp [wantsK, *]), trivial⟩)
     ·
      have hc8b : (decide ((op : Int) = 5)) = false := hc8
      replace hc8 := of_decide_eq_false hc8
      refine JJ.cond (b := false) rfl ?_
      refine JJ.skip ?_
      refine JJ.inBlock ?_
      refine JJ.seq ?_
      refine JJ.region rfl fun rg => ?_
      refine JJ.move rg rfl rfl rfl ?_
      refine JJ.bin rg rfl rfl rfl rfl rfl ?_
      refine JJ.assign rg rfl rfl rfl ?_
      refine JJ.regionEnd ?_
      refine JJ.ret1 rfl Try.func73 rfl rfl (fun h h_ => ⟨(), trivial, congrArg (Value.bool) (show (decide ((k : Int) = 2)) = (wantsK op i k) from by simp [wantsK, *]), trivial⟩)
end Wi
end Go.Proofs.Ytlcdafeoionnhaa
