/- Walks of functions, printed by a program of this session (wip/tool/eng.py). -/
import Derived.Test.YtlcdafeoionnhaaProg
import Derived.Test.YtlcdafeoionnhaaArr
namespace Go.Proofs.Ytlcdafeoionnhaa
open Go
set_option linter.unusedVariables false
set_option linter.unusedSimpArgs false
namespace Vc
theorem ao109 : arrO Try.prog 109 = some (20, 5, 1) := by kernel_rfl
theorem bs111_9 : bytesStrT Try.prog 111 9 = true := by kernel_rfl
theorem cv110_5 : convT Try.prog 110 5 = some .u8 := by kernel_rfl
theorem cv2_110 : convT Try.prog 2 110 = some .u64 := by kernel_rfl
theorem ty5 : tyI Try.prog 5 = some (false, 1) := by kernel_rfl
theorem zo109 : zeroOf Try.prog 109 = some (.agg #[.int .u8 0, .int .u8 0, .int .u8 0, .int .u8 0, .int .u8 0, .int .u8 0, .int .u8 0, .int .u8 0, .int .u8 0, .int .u8 0, .int .u8 0, .int .u8 0, .int .u8 0, .int .u8 0, .int .u8 0, .int .u8 0, .int .u8 0, .int .u8 0, .int .u8 0, .int .u8 0]) := by kernel_rfl
def decs : Nat → Nat → List UInt8 → List UInt8
  | 0, _, acc => acc
  | f + 1, u, acc => if u / 10 = 0 then UInt8.ofNat (48 + u % 10) :: acc else decs f (u / 10) (UInt8.ofNat (48 + u % 10) :: acc)
/-- A number's digits. -/
def digL (n : Int) : List UInt8 := bif decide (n < 0) then 45 :: decs 20 n.natAbs [] else decs 20 n.natAbs []
def digS (n : Int) : ByteArray := ⟨(digL n).toArray⟩
theorem dg_cast (n : Int) (h0 : 0 ≤ n) (h1 : n ≤ 9223372036854775807) : IntKind.u64.wrap n = ((n.natAbs : Nat) : Int) := by
  unfold IntKind.wrap; simp [IntKind.signed, IntKind.bits]; omega
theorem dg_castn (n : Int) (h0 : n < 0) (h1 : -9223372036854775808 ≤ n) : IntKind.u64.wrap n = n + 18446744073709551616 := by
  unfold IntKind.wrap; simp [IntKind.signed, IntKind.bits]; omega
theorem dg_neg (n : Int) (h0 : n < 0) (h1 : -9223372036854775808 ≤ n) : IntKind.u64.wrap (0 - (IntKind.u64.wrap n)) = ((n.natAbs : Nat) : Int) := by
  rw [dg_castn n h0 h1]; unfold IntKind.wrap; simp [IntKind.signed, IntKind.bits]; omega
def dcells (acc : List UInt8) : List Value := List.replicate (20 - acc.length) (Value.int .u8 0) ++ acc.map fun b => Value.int .u8 (b.toNat : Int)
theorem dcells_put {acc : List UInt8} {b : UInt8} (h : acc.length ≤ 19) : (dcells acc).take (19 - acc.length) ++ [Value.int .u8 (b.toNat : Int)] ++ (dcells acc).drop (19 - acc.length + 1) = dcells (b :: acc) := by
  unfold dcells
  have e : 20 - acc.length = 19 - acc.length + 1 := by omega
  rw [e, List.replicate_succ']
  have h1 : (List.replicate (19 - acc.length) (Value.int .u8 0)).length = 19 - acc.length := List.length_replicate
  have h2 : (List.replicate (19 - acc.length) (Value.int .u8 0) ++ [Value.int .u8 0]).length = 19 - acc.length + 1 := by simp
  rw [List.drop_left' h2, List.append_assoc _ [Value.int .u8 0], List.take_left' h1]
  simp only [List.length_cons, List.map_cons]
  rw [show 20 - (acc.length + 1) = 19 - acc.length from by omega]
  simp
theorem dcells_drop {acc : List UInt8} (h : acc.length ≤ 20) : ((dcells acc).drop (20 - acc.length)).take acc.length = acc.map fun b => Value.int .u8 (b.toNat : Int) := by
  unfold dcells
  rw [List.drop_append, List.drop_of_length_le (by simp), List.length_replicate, Nat.sub_self, List.nil_append, List.drop_zero, List.take_of_length_le (by simp)]
theorem dg_u8 {u : Nat} : IntKind.u8.wrap (48 + ((u % 10 : Nat) : Int)) = ((UInt8.ofNat (48 + u % 10)).toNat : Int) := by
  have : u % 10 < 10 := Nat.mod_lt _ (by decide)
  rw [UInt8.toNat_ofNat']
  unfold IntKind.wrap
  simp [IntKind.signed, IntKind.bits]
  try omega
theorem dg_wrap {x : Nat} (h : x < 18446744073709551616) : IntKind.u64.wrap ((x : Nat) : Int) = ((x : Nat) : Int) := by
  unfold IntKind.wrap; simp [IntKind.signed, IntKind.bits]; omega
theorem pow_le19 {k : Nat} (h : k ≤ 19) : 10 ^ k ≤ 10 ^ 19 := Nat.pow_le_pow_right (by decide) h
theorem dg_lt {u k : Nat} (h : u < 10 ^ (k + 1)) : u / 10 < 10 ^ k := by rw [Nat.pow_succ] at h; omega
theorem E19 : (10 : Nat) ^ 19 = 10000000000000000000 := by decide
set_option maxHeartbeats 4000000 in
theorem digits (I : Hp) (n : Int) (h0 : -9223372036854775808 ≤ n) (hn : n ≤ 9223372036854775807) : Fn Try.prog 45 #[.int .i64 (n)] I [] (Ret (X := Unit) (fun x_ I' => True) (fun x_ => .string (digS n)) fun _ => []) := by
 refine Fn.of (args := [_]) Try.func45 rfl rfl ?_
 refine JJ.seq ?_
 refine JJ.region rfl fun rg => ?_
 refine JJ.assign rg rfl rfl rfl ?_
 refine JJ.regionEnd ?_
 refine JJ.seq ?_
 refine JJ.region rfl fun rg => ?_
 refine JJ.alloc (cs := [.int .u8 0, .int .u8 0, .int .u8 0, .int .u8 0, .int .u8 0, .int .u8 0, .int .u8 0, .int .u8 0, .int .u8 0, .int .u8 0, .int .u8 0, .int .u8 0, .int .u8 0, .int .u8 0, .int .u8 0, .int .u8 0, .int .u8 0, .int .u8 0, .int .u8 0, .int .u8 0]) zo109 rfl rg rfl rfl fun b1 => ?_
 refine JJ.regionEnd ?_
 refine JJ.seq ?_
 refine JJ.region rfl fun rg => ?_
 refine JJ.assign rg rfl rfl rfl ?_
 refine JJ.regionEnd ?_
 refine JJ.seq ?_
 refine JJ.region rfl fun rg => ?_
 refine JJ.move rg rfl rfl rfl ?_
 refine JJ.convInt (z := IntKind.u64.wrap n) cv2_110 rg rfl rfl rfl rfl ?_
 refine JJ.assign rg rfl rfl rfl ?_
 refine JJ.regionEnd ?_
 refine JJ.seq ?_
 refine JJ.seq ?_
 refine JJ.region rfl fun rg => ?_
 refine JJ.move rg rfl rfl rfl ?_
 refine JJ.bin rg rfl rfl rfl rfl rfl ?_
 refine JJ.regionEnd ?_
 refine JJ.cond2 rfl (fun hc4 => ?_) (fun hc4 => ?_)
 ·
  have hc4b := hc4
  replace hc4 := of_decide_eq_true hc4
  refine JJ.region rfl fun rg => ?_
  refine JJ.move rg rfl rfl rfl ?_
  refine JJ.neg (z := ((n.natAbs : Nat) : Int)) rg rfl rfl rfl (dg_neg n hc4 h0) ?_
  refine JJ.assign rg rfl rfl rfl ?_
  refine JJ.regionEnd ?_
  refine JJ.seq ?_
  refine JJ.block ?_
  refine JJ.blkOwn (n := 20) (sz := 1) rfl ?_
  refine JJ.res (L' := [own 109 1 (some ⟨b1, 0, none⟩) 20 20 (dcells [])]) (fun h q => q) ?_
  refine JJ.induct (X := Nat × List UInt8) (fun z => [(0, .int .i64 n), (3, .pointer (some ⟨b1, 0, none⟩)), (4, .int .i64 ((20 - z.2.length : Nat) : Int)), (5, .int .u64 ((z.1 : Nat) : Int))]) (fun _ => I) (fun z => [own 109 1 (some ⟨b1, 0, none⟩) 20 20 (dcells z.2)])
   (fun z => z.2.length ≤ 18 ∧ z.1 < 10 ^ (19 - z.2.length) ∧ decs 20 n.natAbs [] = decs (20 - z.2.length) z.1 z.2) (fun z => 20 - z.2.length) (n.natAbs, []) ⟨by simp, by show n.natAbs < 10 ^ 19; rw [E19]; omega, rfl⟩ (fun h => JJ.keep _ (by repeat (first | exact trivial | refine ⟨rfl, ?_⟩)) h) ?_
  rintro ⟨x, acc⟩ ⟨hl, hx, hd⟩ ih
  dsimp only at hl hx hd ih ⊢
  have hx1 := pow_le19 (k := 19 - acc.length) (by omega)
  rw [E19] at hx1
  obtain ⟨k, hk⟩ : ∃ k, 20 - acc.length = k + 1 := ⟨19 - acc.length, by omega⟩
  have hk2 : 19 - acc.length = k := by omega
  refine JJ.block ?_
  refine JJ.seq ?_
  refine JJ.region rfl fun rg => ?_
  refine JJ.move rg rfl rfl rfl ?_
  refine JJ.binI (z := ((19 - acc.length : Nat) : Int)) rg rfl rfl rfl rfl rfl (wrap_to (by omega) (by omega) (by omega)) ?_
  refine JJ.assign rg rfl rfl rfl ?_
  refine JJ.regionEnd ?_
  refine JJ.seq ?_
  refine JJ.region rfl fun rg => ?_
  refine JJ.move rg rfl rfl rfl ?_
  refine JJ.move rg rfl rfl rfl ?_
  refine JJ.rem (z := ((x % 10 : Nat) : Int)) rg rfl rfl rfl rfl (by decide) (by rw [Int.tmod_eq_emod_of_nonneg (by omega)]; rfl) ?_
  refine JJ.intOp (z := 48 + ((x % 10 : Nat) : Int)) rg rfl rfl rfl rfl rfl (by have := dg_wrap (x := 48 + x % 10) (by omega); simpa using this) ?_
  refine JJ.convInt (z := ((UInt8.ofNat (48 + x % 10)).toNat : Int)) cv110_5 rg rfl rfl rfl dg_u8 ?_
  refine JJ.indexArr (a' := ⟨b1, 19 - acc.length, none⟩) ao109 rg rfl rfl rfl rfl (by omega) (by omega) (by rw [Addr.add_lit]; simp) ?_
  refine JJ.storeOwn (vs := [.int .u8 ((UInt8.ofNat (48 + x % 10)).toNat : Int)]) ty5 0 rg rfl rfl rfl rfl rfl rfl rfl (by simp [Value.oneCell']) (by simp [dcells]; omega) ?_
  dsimp only [List.set]
  rw [show [Value.int IntKind.u8 ((UInt8.ofNat (48 + x % 10)).toNat : Int)].length = 1 from rfl, dcells_put (by omega)]
  refine JJ.regionEnd ?_
  refine JJ.seq ?_
  refine JJ.region rfl fun rg => ?_
  refine JJ.move rg rfl rfl rfl ?_
  refine JJ.quo (z := ((x / 10 : Nat) : Int)) rg rfl rfl rfl rfl (by decide) (by rw [Int.tdiv_eq_ediv_of_nonneg (by omega), show ((x : Nat) : Int) / 10 = ((x / 10 : Nat) : Int) from by omega]; exact dg_wrap (by omega)) ?_
  refine JJ.assign rg rfl rfl rfl ?_
  refine JJ.regionEnd ?_
  refine JJ.seq ?_
  refine JJ.region rfl fun rg => ?_
  refine JJ.move rg rfl rfl rfl ?_
  refine JJ.intCmp rg rfl rfl rfl rfl rfl ?_
  refine JJ.regionEnd ?_
  refine JJ.cond2 rfl (fun hc9 => ?_) (fun hc9 => ?_)
  ·
   have hc9b := hc9
   replace hc9 := of_decide_eq_true hc9
   have hfin : decs 20 n.natAbs [] = UInt8.ofNat (48 + x % 10) :: acc := by rw [hd, hk, decs, if_pos (by omega)]
   refine JJ.exit rfl ?_
   refine JJ.seq ?_
   refine JJ.seq ?_
   refine JJ.region rfl fun rg => ?_
   refine JJ.move rg rfl rfl rfl ?_
   refine JJ.bin rg rfl rfl rfl rfl rfl ?_
   refine JJ.regionEnd ?_
   refine JJ.cond2 rfl (fun hc10 => ?_) (fun hc10 => ?_)
   ·
    have hc10b := hc10
    replace hc10 := of_decide_eq_true hc10
    refine JJ.seq ?_
    refine JJ.region rfl fun rg => ?_
    refine JJ.move rg rfl rfl rfl ?_
    refine JJ.binI (z := ((19 - (UInt8.ofNat (48 + x % 10) :: acc).length : Nat) : Int)) rg rfl rfl rfl rfl rfl (by simp only [List.length_cons]; exact wrap_to (by omega) (by omega) (by omega)) ?_
    refine JJ.assign rg rfl rfl rfl ?_
    refine JJ.regionEnd ?_
    refine JJ.region rfl fun rg => ?_
    refine JJ.move rg rfl rfl rfl ?_
    refine JJ.indexArr (a' := ⟨b1, 19 - (UInt8.ofNat (48 + x % 10) :: acc).length, none⟩) ao109 rg rfl rfl rfl rfl (by omega) (by simp only [List.length_cons]; omega) (by rw [Addr.add_lit]; simp) ?_
    refine JJ.storeOwn (vs := [.int .u8 45]) ty5 0 rg rfl rfl rfl rfl rfl rfl rfl (by simp [Value.oneCell']) (by simp [dcells]; omega) ?_
    dsimp only [List.set]
    rw [show [Value.int IntKind.u8 45].length = 1 from rfl, show [Value.int IntKind.u8 45] = [Value.int IntKind.u8 (((45 : UInt8).toNat : Nat) : Int)] from rfl, dcells_put (by simp only [List.length_cons]; omega)]
    refine JJ.regionEnd ?_
    refine JJ.seq ?_
    refine JJ.region rfl fun rg => ?_
    refine JJ.move rg rfl rfl rfl ?_
    refine JJ.sliceArr (a' := ⟨b1, 20 - (45 :: UInt8.ofNat (48 + x % 10) :: acc).length, none⟩) (l := 20 - (45 :: UInt8.ofNat (48 + x % 10) :: acc).length) (h := 20) ao109 rg rfl rfl rfl ⟨.i64, by simp only [List.length_cons, show 20 - (acc.length + 1 + 1) = 19 - (acc.length + 1) from by omega, show 20 - (acc.length + 1) = 19 - acc.length from by omega]; rfl⟩ rfl (by omega) (by omega) (by simp only [List.length_cons]; omega) (by rw [Addr.add_lit]; simp) ?_
    refine JJ.bytesStr (l := 45 :: UInt8.ofNat (48 + x % 10) :: acc) bs111_9 rg rfl rfl rfl (by simp only [List.length_cons]; omega) (Bytes.ofOwn 0 rfl (dcells_drop (by simp only [List.length_cons]; omega))) ?_
    refine JJ.assign rg rfl rfl rfl ?_
    refine JJ.regionEnd ?_
    have hF : digS n = ⟨(45 :: UInt8.ofNat (48 + x % 10) :: acc).toArray⟩ := by unfold digS digL; rw [hfin, decide_eq_true hc4]; rfl
    refine JJ.ret1 rfl Try.func45 rfl rfl (fun h h_ => ⟨(), trivial, (by rw [hF]), trivial⟩)
   ·
    have hc10b := hc10
    replace hc10 := of_decide_eq_false hc10
    exact absurd hc10 (by omega)
  ·
   have hc9b := hc9
   replace hc9 := of_decide_eq_false hc9
   refine JJ.skip ?_
   refine JJ.inBlock ?_
   refine JJ.keep _ ?_ (ih (x / 10, UInt8.ofNat (48 + x % 10) :: acc) ⟨?_, ?_, ?_⟩ (by simp only [List.length_cons]; omega))
   · simp only [List.length_cons]; rw [show ((20 - (acc.length + 1) : Nat) : Int) = ((19 - acc.length : Nat) : Int) from by omega]; exact ⟨rfl, rfl, rfl, rfl, trivial⟩
   ·
    simp only [List.length_cons]
    by_cases h18 : acc.length = 18
    · rw [h18] at hx; exact absurd (show ((x / 10 : Nat) : Int) = 0 from by omega) hc9
    · omega
   · simp only [List.length_cons]; rw [hk2] at hx; obtain ⟨k2, rfl⟩ : ∃ k2, k = k2 + 1 := ⟨k - 1, by by_cases h0 : k = 0; (rw [h0] at hx; exact absurd (show ((x / 10 : Nat) : Int) = 0 from by omega) hc9); omega⟩; rw [show 19 - (acc.length + 1) = k2 from by omega]; exact dg_lt hx
   · simp only [List.length_cons]; rw [hd, hk, decs, if_neg (by omega), show 20 - (acc.length + 1) = k from by omega]
 ·
  have hc4b := hc4
  replace hc4 := of_decide_eq_false hc4
  have hcast := dg_cast n (by omega) hn
  rw [hcast]
  refine JJ.skip ?_
  refine JJ.seq ?_
  refine JJ.block ?_
  refine JJ.blkOwn (n := 20) (sz := 1) rfl ?_
  refine JJ.res (L' := [own 109 1 (some ⟨b1, 0, none⟩) 20 20 (dcells [])]) (fun h q => q) ?_
  refine JJ.induct (X := Nat × List UInt8) (fun z => [(0, .int .i64 n), (3, .pointer (some ⟨b1, 0, none⟩)), (4, .int .i64 ((20 - z.2.length : Nat) : Int)), (5, .int .u64 ((z.1 : Nat) : Int))]) (fun _ => I) (fun z => [own 109 1 (some ⟨b1, 0, none⟩) 20 20 (dcells z.2)])
   (fun z => z.2.length ≤ 18 ∧ z.1 < 10 ^ (19 - z.2.length) ∧ decs 20 n.natAbs [] = decs (20 - z.2.length) z.1 z.2) (fun z => 20 - z.2.length) (n.natAbs, []) ⟨by simp, by show n.natAbs < 10 ^ 19; rw [E19]; omega, rfl⟩ (fun h => JJ.keep _ (by repeat (first | exact trivial | refine ⟨rfl, ?_⟩)) h) ?_
  rintro ⟨x, acc⟩ ⟨hl, hx, hd⟩ ih
  dsimp only at hl hx hd ih ⊢
  have hx1 := pow_le19 (k := 19 - acc.length) (by omega)
  rw [E19] at hx1
  obtain ⟨k, hk⟩ : ∃ k, 20 - acc.length = k + 1 := ⟨19 - acc.length, by omega⟩
  have hk2 : 19 - acc.length = k := by omega
  refine JJ.block ?_
  refine JJ.seq ?_
  refine JJ.region rfl fun rg => ?_
  refine JJ.move rg rfl rfl rfl ?_
  refine JJ.binI (z := ((19 - acc.length : Nat) : Int)) rg rfl rfl rfl rfl rfl (wrap_to (by omega) (by omega) (by omega)) ?_
  refine JJ.assign rg rfl rfl rfl ?_
  refine JJ.regionEnd ?_
  refine JJ.seq ?_
  refine JJ.region rfl fun rg => ?_
  refine JJ.move rg rfl rfl rfl ?_
  refine JJ.move rg rfl rfl rfl ?_
  refine JJ.rem (z := ((x % 10 : Nat) : Int)) rg rfl rfl rfl rfl (by decide) (by rw [Int.tmod_eq_emod_of_nonneg (by omega)]; rfl) ?_
  refine JJ.intOp (z := 48 + ((x % 10 : Nat) : Int)) rg rfl rfl rfl rfl rfl (by have := dg_wrap (x := 48 + x % 10) (by omega); simpa using this) ?_
  refine JJ.convInt (z := ((UInt8.ofNat (48 + x % 10)).toNat : Int)) cv110_5 rg rfl rfl rfl dg_u8 ?_
  refine JJ.indexArr (a' := ⟨b1, 19 - acc.length, none⟩) ao109 rg rfl rfl rfl rfl (by omega) (by omega) (by rw [Addr.add_lit]; simp) ?_
  refine JJ.storeOwn (vs := [.int .u8 ((UInt8.ofNat (48 + x % 10)).toNat : Int)]) ty5 0 rg rfl rfl rfl rfl rfl rfl rfl (by simp [Value.oneCell']) (by simp [dcells]; omega) ?_
  dsimp only [List.set]
  rw [show [Value.int IntKind.u8 ((UInt8.ofNat (48 + x % 10)).toNat : Int)].length = 1 from rfl, dcells_put (by omega)]
  refine JJ.regionEnd ?_
  refine JJ.seq ?_
  refine JJ.region rfl fun rg => ?_
  refine JJ.move rg rfl rfl rfl ?_
  refine JJ.quo (z := ((x / 10 : Nat) : Int)) rg rfl rfl rfl rfl (by decide) (by rw [Int.tdiv_eq_ediv_of_nonneg (by omega), show ((x : Nat) : Int) / 10 = ((x / 10 : Nat) : Int) from by omega]; exact dg_wrap (by omega)) ?_
  refine JJ.assign rg rfl rfl rfl ?_
  refine JJ.regionEnd ?_
  refine JJ.seq ?_
  refine JJ.region rfl fun rg => ?_
  refine JJ.move rg rfl rfl rfl ?_
  refine JJ.intCmp rg rfl rfl rfl rfl rfl ?_
  refine JJ.regionEnd ?_
  refine JJ.cond2 rfl (fun hc9 => ?_) (fun hc9 => ?_)
  ·
   have hc9b := hc9
   replace hc9 := of_decide_eq_true hc9
   have hfin : decs 20 n.natAbs [] = UInt8.ofNat (48 + x % 10) :: acc := by rw [hd, hk, decs, if_pos (by omega)]
   refine JJ.exit rfl ?_
   refine JJ.seq ?_
   refine JJ.seq ?_
   refine JJ.region rfl fun rg => ?_
   refine JJ.move rg rfl rfl rfl ?_
   refine JJ.bin rg rfl rfl rfl rfl rfl ?_
   refine JJ.regionEnd ?_
   refine JJ.cond2 rfl (fun hc10 => ?_) (fun hc10 => ?_)
   ·
    have hc10b := hc10
    replace hc10 := of_decide_eq_true hc10
    exact absurd hc10 hc4
   ·
    have hc10b := hc10
    replace hc10 := of_decide_eq_false hc10
    refine JJ.skip ?_
    refine JJ.seq ?_
    refine JJ.region rfl fun rg => ?_
    refine JJ.move rg rfl rfl rfl ?_
    refine JJ.sliceArr (a' := ⟨b1, 20 - (UInt8.ofNat (48 + x % 10) :: acc).length, none⟩) (l := 20 - (UInt8.ofNat (48 + x % 10) :: acc).length) (h := 20) ao109 rg rfl rfl rfl ⟨.i64, by simp only [List.length_cons, show 20 - (acc.length + 1 + 1) = 19 - (acc.length + 1) from by omega, show 20 - (acc.length + 1) = 19 - acc.length from by omega]; rfl⟩ rfl (by omega) (by omega) (by simp only [List.length_cons]; omega) (by rw [Addr.add_lit]; simp) ?_
    refine JJ.bytesStr (l := UInt8.ofNat (48 + x % 10) :: acc) bs111_9 rg rfl rfl rfl (by simp only [List.length_cons]; omega) (Bytes.ofOwn 0 rfl (dcells_drop (by simp only [List.length_cons]; omega))) ?_
    refine JJ.assign rg rfl rfl rfl ?_
    refine JJ.regionEnd ?_
    have hF : digS n = ⟨(UInt8.ofNat (48 + x % 10) :: acc).toArray⟩ := by unfold digS digL; rw [hfin, decide_eq_false hc4]; rfl
    refine JJ.ret1 rfl Try.func45 rfl rfl (fun h h_ => ⟨(), trivial, (by rw [hF]), trivial⟩)
  ·
   have hc9b := hc9
   replace hc9 := of_decide_eq_false hc9
   refine JJ.skip ?_
   refine JJ.inBlock ?_
   refine JJ.keep _ ?_ (ih (x / 10, UInt8.ofNat (48 + x % 10) :: acc) ⟨?_, ?_, ?_⟩ (by simp only [List.length_cons]; omega))
   · simp only [List.length_cons]; rw [show ((20 - (acc.length + 1) : Nat) : Int) = ((19 - acc.length : Nat) : Int) from by omega]; exact ⟨rfl, rfl, rfl, rfl, trivial⟩
   ·
    simp only [List.length_cons]
    by_cases h18 : acc.length = 18
    · rw [h18] at hx; exact absurd (show ((x / 10 : Nat) : Int) = 0 from by omega) hc9
    · omega
   · simp only [List.length_cons]; rw [hk2] at hx; obtain ⟨k2, rfl⟩ : ∃ k2, k = k2 + 1 := ⟨k - 1, by by_cases h0 : k = 0; (rw [h0] at hx; exact absurd (show ((x / 10 : Nat) : Int) = 0 from by omega) hc9); omega⟩; rw [show 19 - (acc.length + 1) = k2 from by omega]; exact dg_lt hx
   · simp only [List.length_cons]; rw [hd, hk, decs, if_neg (by omega), show 20 - (acc.length + 1) = k from by omega]
end Vc
end Go.Proofs.Ytlcdafeoionnhaa
