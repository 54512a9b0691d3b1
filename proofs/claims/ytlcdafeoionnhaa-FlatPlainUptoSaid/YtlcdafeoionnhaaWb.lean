/- Walks of functions, printed by a program of this session (wip/tool/eng.py). -/
import Derived.Test.YtlcdafeoionnhaaProg
import Derived.Test.YtlcdafeoionnhaaStr
import Derived.Test.YtlcdafeoionnhaaSpecA
import Derived.Test.YtlcdafeoionnhaaSh
namespace Go.Proofs.Ytlcdafeoionnhaa
open Go
set_option linter.unusedVariables false
set_option linter.unusedSimpArgs false
namespace Wb
theorem bo57 : bodyOk Try.prog 57 = true := by kernel_rfl
theorem bo58 : bodyOk Try.prog 58 = true := by kernel_rfl
theorem bo59 : bodyOk Try.prog 59 = true := by kernel_rfl
theorem bo60 : bodyOk Try.prog 60 = true := by kernel_rfl
theorem bo61 : bodyOk Try.prog 61 = true := by kernel_rfl
theorem bo74 : bodyOk Try.prog 74 = true := by kernel_rfl
theorem bo75 : bodyOk Try.prog 75 = true := by kernel_rfl
theorem bo76 : bodyOk Try.prog 76 = true := by kernel_rfl
theorem bo77 : bodyOk Try.prog 77 = true := by kernel_rfl
theorem bo83 : bodyOk Try.prog 83 = true := by kernel_rfl
theorem cv5_21 : convT Try.prog 5 21 = some .i32 := by kernel_rfl
theorem ib4 : isBoolT Try.prog 4 = true := by kernel_rfl
theorem st9 : isStringT Try.prog 9 = true := by kernel_rfl
theorem ty113 : tyI Try.prog 113 = some (false, 1) := by kernel_rfl
theorem letter (I : Hp) (r : Int) : Fn Try.prog 58 #[.int .i32 (r)] I [] (RB (letterB r)) := by
 refine Fn.of (args := [_]) Try.func58 rfl rfl ?_
 refine JJ.seq ?_
 refine JJ.region rfl fun rg => ?_
 refine JJ.assign rg rfl rfl rfl ?_
 refine JJ.regionEnd ?_
 refine JJ.seq ?_
 refine JJ.cut (X := Hp) (fun _ => [(2, .bool (letterB r))]) (fun x => x) (fun _ => []) (fun x => Hp.le (I) x) (fun hk2 => ?_) ?_
 ·
  have hleM1 := Hp.le.refl (I)
  refine JJ.region rfl fun rg => ?_
  refine JJ.move rg rfl rfl rfl ?_
  refine JJ.bin rg rfl rfl rfl rfl rfl ?_
  refine JJ.move rg rfl rfl rfl ?_
  refine JJ.split 5 rfl (fun hg1_3 => ?_) (fun hg1_3 => ?_)
  ·
   have hg1_3b : (decide ((97 : Int) ≤ r)) = true := hg1_3
   replace hg1_3 := of_decide_eq_true hg1_3
   refine JJ.move rg rfl rfl rfl ?_
   refine JJ.bin rg rfl rfl rfl rfl rfl ?_
   refine JJ.pick (b := true) rg rfl rfl rfl rfl ?_
   refine JJ.assign rg rfl rfl rfl ?_
   refine JJ.regionEnd ?_
   refine JJ.keep _ ?_ (hk2 _ hleM1)
   exact ⟨congrArg (fun b => some (Value.bool b)) (show (decide ((r : Int) ≤ 122)) = (letterB r) from by simp [letterB, *]), trivial⟩
  ·
   have hg1_3b : (decide ((97 : Int) ≤ r)) = false := hg1_3
   replace hg1_3 := of_decide_eq_false hg1_3
   refine JJ.gskip rg rfl rfl ?_
   refine JJ.gskip rg rfl rfl ?_
   refine JJ.pick (b := false) rg rfl rfl rfl rfl ?_
   refine JJ.assign rg rfl rfl rfl ?_
   refine JJ.regionEnd ?_
   refine JJ.keep _ ?_ (hk2 _ hleM1)
   exact ⟨congrArg (fun b => some (Value.bool b)) (show (false) = (letterB r) from by simp [letterB, *]), trivial⟩
 ·
  intro I3 hle4
  refine JJ.ret1 rfl Try.func58 rfl rfl (fun h h_ => ⟨(), trivial, rfl, trivial⟩)
theorem digit (I : Hp) (r : Int) : Fn Try.prog 76 #[.int .i32 (r)] I [] (RB (digitB r)) := by
 refine Fn.of (args := [_]) Try.func76 rfl rfl ?_
 refine JJ.seq ?_
 refine JJ.region rfl fun rg => ?_
 refine JJ.assign rg rfl rfl rfl ?_
 refine JJ.regionEnd ?_
 refine JJ.seq ?_
 refine JJ.cut (X := Hp) (fun _ => [(2, .bool (digitB r))]) (fun x => x) (fun _ => []) (fun x => Hp.le (I) x) (fun hk2 => ?_) ?_
 ·
  have hleM1 := Hp.le.refl (I)
  refine JJ.region rfl fun rg => ?_
  refine JJ.move rg rfl rfl rfl ?_
  refine JJ.bin rg rfl rfl rfl rfl rfl ?_
  refine JJ.move rg rfl rfl rfl ?_
  refine JJ.split 5 rfl (fun hg1_3 => ?_) (fun hg1_3 => ?_)
  ·
   have hg1_3b : (decide ((48 : Int) ≤ r)) = true := hg1_3
   replace hg1_3 := of_decide_eq_true hg1_3
   refine JJ.move rg rfl rfl rfl ?_
   refine JJ.bin rg rfl rfl rfl rfl rfl ?_
   refine JJ.pick (b := true) rg rfl rfl rfl rfl ?_
   refine JJ.assign rg rfl rfl rfl ?_
   refine JJ.regionEnd ?_
   refine JJ.keep _ ?_ (hk2 _ hleM1)
   exact ⟨congrArg (fun b => some (Value.bool b)) (show (decide ((r : Int) ≤ 57)) = (digitB r) from by simp [digitB, *]), trivial⟩
  ·
   have hg1_3b : (decide ((48 : Int) ≤ r)) = false := hg1_3
   replace hg1_3 := of_decide_eq_false hg1_3
   refine JJ.gskip rg rfl rfl ?_
   refine JJ.gskip rg rfl rfl ?_
   refine JJ.pick (b := false) rg rfl rfl rfl rfl ?_
   refine JJ.assign rg rfl rfl rfl ?_
   refine JJ.regionEnd ?_
   refine JJ.keep _ ?_ (hk2 _ hleM1)
   exact ⟨congrArg (fun b => some (Value.bool b)) (show (false) = (digitB r) from by simp [digitB, *]), trivial⟩
 ·
  intro I3 hle4
  refine JJ.ret1 rfl Try.func76 rfl rfl (fun h h_ => ⟨(), trivial, rfl, trivial⟩)
theorem inner (I : Hp) (r : Int) : Fn Try.prog 60 #[.int .i32 (r)] I [] (RB (innerB r)) := by
 refine Fn.of (args := [_]) Try.func60 rfl rfl ?_
 refine JJ.seq ?_
 refine JJ.region rfl fun rg => ?_
 refine JJ.assign rg rfl rfl rfl ?_
 refine JJ.regionEnd ?_
 refine JJ.seq ?_
 refine JJ.cut (X := Hp) (fun _ => [(2, .bool (innerB r))]) (fun x => x) (fun _ => []) (fun x => Hp.le (I) x) (fun hk2 => ?_) ?_
 ·
  have hleM1 := Hp.le.refl (I)
  refine JJ.region rfl fun rg => ?_
  refine JJ.move rg rfl rfl rfl ?_
  refine JJ.callp bo58 rg rfl rfl rfl rfl (letter _ r) fun _ I5 hle6 _ => ?_
  replace hleM1 := hleM1.trans hle6
  refine JJ.move rg rfl rfl rfl ?_
  refine JJ.split 5 rfl (fun hg1_3 => ?_) (fun hg1_3 => ?_)
  ·
   have hg1_3b : (letterB r) = true := hg1_3
   refine JJ.gskip rg rfl rfl ?_
   refine JJ.gskip rg rfl rfl ?_
   refine JJ.pick (b := true) rg rfl rfl rfl rfl ?_
   refine JJ.move rg rfl rfl rfl ?_
   refine JJ.gskip rg rfl rfl ?_
   refine JJ.gskip rg rfl rfl ?_
   refine JJ.pick (b := true) rg rfl rfl rfl rfl ?_
   refine JJ.assign rg rfl rfl rfl ?_
   refine JJ.regionEnd ?_
   refine JJ.keep _ ?_ (hk2 _ hleM1)
   exact ⟨congrArg (fun b => some (Value.bool b)) (show (true) = (innerB r) from by simp [innerB, *]), trivial⟩
  ·
   have hg1_3b : (letterB r) = false := hg1_3
   refine JJ.move rg rfl rfl rfl ?_
   refine JJ.callp bo76 rg rfl rfl rfl rfl (digit _ r) fun _ I7 hle8 _ => ?_
   replace hleM1 := hleM1.trans hle8
   refine JJ.pick (b := false) rg rfl rfl rfl rfl ?_
   refine JJ.move rg rfl rfl rfl ?_
   refine JJ.split 9 rfl (fun hg1_7 => ?_) (fun hg1_7 => ?_)
   ·
    have hg1_7b : (digitB r) = true := hg1_7
    refine JJ.gskip rg rfl rfl ?_
    refine JJ.gskip rg rfl rfl ?_
    refine JJ.pick (b := true) rg rfl rfl rfl rfl ?_
    refine JJ.assign rg rfl rfl rfl ?_
    refine JJ.regionEnd ?_
    refine JJ.keep _ ?_ (hk2 _ hleM1)
    exact ⟨congrArg (fun b => some (Value.bool b)) (show (true) = (innerB r) from by simp [innerB, *]), trivial⟩
   ·
    have hg1_7b : (digitB r) = false := hg1_7
    refine JJ.move rg rfl rfl rfl ?_
    refine JJ.bin rg rfl rfl rfl rfl rfl ?_
    refine JJ.pick (b := false) rg rfl rfl rfl rfl ?_
    refine JJ.assign rg rfl rfl rfl ?_
    refine JJ.regionEnd ?_
    refine JJ.keep _ ?_ (hk2 _ hleM1)
    exact ⟨congrArg (fun b => some (Value.bool b)) (show (decide ((r : Int) = 95)) = (innerB r) from by simp [innerB, *]), trivial⟩
 ·
  intro I3 hle4
  refine JJ.ret1 rfl Try.func60 rfl rfl (fun h h_ => ⟨(), trivial, rfl, trivial⟩)
def begB (p : Int → Bool) (l : List UInt8) : Bool := match l with | [] => false | b :: _ => p b.toNat
theorem begins (I : Hp) (s : ByteArray) (p : Int → Bool) (g : Nat) (fs caps : List Value) (hg : bodyOk Try.prog g = true) (hF : ∀ I1 r, I.le I1 → 0 ≤ r → Fn Try.prog g (fs ++ [Value.int .i32 r] ++ caps).toArray I1 [] (RB (p r))) : Fn Try.prog 57 #[.string (s), .func (.func g) fs.toArray caps.toArray] I [] (RB (begB p s.data.toList)) := by
 have hl0 := Hp.le.refl I
 refine Fn.of (args := [_, _]) Try.func57 rfl rfl ?_
 refine JJ.seq ?_
 refine JJ.region rfl fun rg => ?_
 refine JJ.assign rg rfl rfl rfl ?_
 refine JJ.regionEnd ?_
 refine JJ.seq ?_
 refine JJ.cut (X := Hp) (fun _ => [(4, .bool (begB p s.data.toList))]) (fun x => x) (fun _ => []) (fun x => Hp.le (I) x) (fun hk2 => ?_) ?_
 ·
  have hleM1 := Hp.le.refl (I)
  refine JJ.region rfl fun rg => ?_
  refine JJ.move rg rfl rfl rfl ?_
  refine JJ.bin rg rfl rfl rfl rfl rfl ?_
  refine JJ.move rg rfl rfl rfl ?_
  refine JJ.split 7 rfl (fun hg1_3 => ?_) (fun hg1_3 => ?_)
  ·
   have hg1_3b : (!decide (s.data.toList = [])) = true := hg1_3
   replace hg1_3 := not_t hg1_3
   replace hg1_3b := hg1_3
   replace hg1_3 := of_decide_eq_false hg1_3
   refine JJ.move rg rfl rfl rfl ?_
   refine JJ.move rg rfl rfl rfl ?_
   obtain ⟨b, r, hbr⟩ : ∃ b r, s.data.toList = b :: r := by
    cases h : s.data.toList with
    | nil => simp [h] at hg1_3
    | cons b r => exact ⟨b, r, rfl⟩
   refine JJ.indexStr (b := b) st9 rg rfl rfl rfl rfl (by omega) (by rw [hbr]; rfl) ?_
   refine JJ.convInt (z := ((b).toNat : Int)) cv5_21 rg rfl rfl rfl (conv_u8_i32 b) ?_
   refine JJ.callp hg rg rfl rfl rfl rfl (hF _ _ hl0 (by omega)) fun _ I5 hle6 _ => ?_
   replace hl0 := hl0.trans hle6
   replace hleM1 := hleM1.trans hle6
   refine JJ.pick (b := true) rg rfl rfl rfl rfl ?_
   refine JJ.assign rg rfl rfl rfl ?_
   refine JJ.regionEnd ?_
   refine JJ.keep _ ?_ (hk2 _ hleM1)
   exact ⟨congrArg (fun b => some (Value.bool b)) (show (p b.toNat) = (begB p s.data.toList) from by (first | simp only [begB, hbr] | (simp at hg1_3; simp [begB, hg1_3]))), trivial⟩
  ·
   have hg1_3b : (!decide (s.data.toList = [])) = false := hg1_3
   replace hg1_3 := not_f hg1_3
   replace hg1_3b := hg1_3
   replace hg1_3 := of_decide_eq_true hg1_3
   refine JJ.gskip rg rfl rfl ?_
   refine JJ.gskip rg rfl rfl ?_
   refine JJ.gskip rg rfl rfl ?_
   refine JJ.gskip rg rfl rfl ?_
   refine JJ.gskip rg rfl rfl ?_
   refine JJ.pick (b := false) rg rfl rfl rfl rfl ?_
   refine JJ.assign rg rfl rfl rfl ?_
   refine JJ.regionEnd ?_
   refine JJ.keep _ ?_ (hk2 _ hleM1)
   exact ⟨congrArg (fun b => some (Value.bool b)) (show (false) = (begB p s.data.toList) from by (first | simp only [begB, hbr] | (simp at hg1_3; simp [begB, hg1_3]))), trivial⟩
 ·
  intro I3 hle4
  replace hl0 := hl0.trans hle4
  refine JJ.ret1 rfl Try.func57 rfl rfl (fun h h_ => ⟨(), trivial, rfl, trivial⟩)
theorem contains_fn (I : Hp) (s sub : ByteArray) (hgl : GL 0 I) (hs : s.size < 4294967281) : Fn Try.prog 77 #[.string s, .string sub] I [] (RB (Lib.contains s.data.toList sub.data.toList)) :=
  Fn.same fun w hw => let ⟨m, r⟩ := hgl; Try.strings_Contains s sub m w hs (by have := r.cell hw (j := 0) rfl; simpa [Addr.add] using this)
theorem app_data (a b : ByteArray) : (a ++ b).data.toList = a.data.toList ++ b.data.toList := by
  obtain ⟨a⟩ := a; obtain ⟨b⟩ := b; rw [ByteArray.mk_append_mk]
theorem keys_size : (⟨keysL.toArray⟩ : ByteArray).size < 4294967281 := by decide +kernel
theorem key_contains (I : Hp) (s : ByteArray) (hgl : GL 0 I) : Fn Try.prog 77 #[.string ⟨keysL.toArray⟩, .string (⟨#[32]⟩ ++ s ++ ⟨#[32]⟩)] I [] (RB (Lib.contains keysL ([32] ++ s.data.toList ++ [32]))) := by
  have h := contains_fn I ⟨keysL.toArray⟩ (⟨#[32]⟩ ++ s ++ ⟨#[32]⟩) hgl keys_size
  rw [app_data, app_data] at h
  exact h
theorem Key (I : Hp) (s : ByteArray) (hgl : GL 0 I) (hs : s.size ≤ 4294967200) : Fn Try.prog 61 #[.string (s)] I [] (RB (keyB s.data.toList)) := by
 refine Fn.of (args := [_]) Try.func61 rfl rfl ?_
 refine JJ.seq ?_
 refine JJ.region rfl fun rg => ?_
 refine JJ.assign rg rfl rfl rfl ?_
 refine JJ.regionEnd ?_
 refine JJ.seq ?_
 refine JJ.cut (X := Hp) (fun _ => [(2, .bool (keyB s.data.toList))]) (fun x => x) (fun _ => []) (fun x => Hp.le (I) x) (fun hk2 => ?_) ?_
 ·
  have hleM1 := Hp.le.refl (I)
  refine JJ.region rfl fun rg => ?_
  refine JJ.move rg rfl rfl rfl ?_
  refine JJ.bin rg rfl rfl rfl rfl rfl ?_
  refine JJ.move rg rfl rfl rfl ?_
  refine JJ.split 5 rfl (fun hg1_3 => ?_) (fun hg1_3 => ?_)
  ·
   have hg1_3b : (!decide (s.data.toList = [])) = true := hg1_3
   replace hg1_3 := not_t hg1_3
   replace hg1_3b := hg1_3
   replace hg1_3 := of_decide_eq_false hg1_3
   refine JJ.move rg rfl rfl rfl ?_
   refine JJ.callp bo77 rg rfl rfl rfl rfl (contains_fn _ s ⟨#[32]⟩ hgl (by omega)) fun _ I5 hle6 _ => ?_
   replace hgl := hgl.mono hle6
   replace hleM1 := hleM1.trans hle6
   refine JJ.not rg rfl rfl rfl ?_
   refine JJ.pick (b := true) rg rfl rfl rfl rfl ?_
   refine JJ.move rg rfl rfl rfl ?_
   refine JJ.split 10 rfl (fun hg1_8 => ?_) (fun hg1_8 => ?_)
   ·
    have hg1_8b : (!(Lib.contains s.data.toList [32])) = true := hg1_8
    replace hg1_8 := not_t hg1_8
    replace hg1_8b := hg1_8
    refine JJ.move rg rfl rfl rfl ?_
    refine JJ.concat rg rfl rfl rfl rfl (by (try simp only [ByteArray.size_append]); have e : ByteArray.size ⟨#[32]⟩ = 1 := rfl; omega) ?_
    refine JJ.concat rg rfl rfl rfl rfl (by (try simp only [ByteArray.size_append]); have e : ByteArray.size ⟨#[32]⟩ = 1 := rfl; omega) ?_
    refine JJ.callp bo77 rg rfl rfl rfl rfl (key_contains _ s hgl) fun _ I7 hle8 _ => ?_
    replace hgl := hgl.mono hle8
    replace hleM1 := hleM1.trans hle8
    refine JJ.pick (b := true) rg rfl rfl rfl rfl ?_
    refine JJ.assign rg rfl rfl rfl ?_
    refine JJ.regionEnd ?_
    refine JJ.keep _ ?_ (hk2 _ hleM1)
    exact ⟨congrArg (fun b => some (Value.bool b)) (show (Lib.contains keysL ([32] ++ s.data.toList ++ [32])) = (keyB s.data.toList) from by (first | (simp at hg1_3; simp [keyB, *]; done) | (have hne : s.data.toList.isEmpty = false := by (cases h : s.data.toList with | nil => exact absurd h hg1_3 | cons _ _ => rfl); simp [keyB, hne, *]))), trivial⟩
   ·
    have hg1_8b : (!(Lib.contains s.data.toList [32])) = false := hg1_8
    replace hg1_8 := not_f hg1_8
    replace hg1_8b := hg1_8
    refine JJ.gskip rg rfl rfl ?_
    refine JJ.gskip rg rfl rfl ?_
    refine JJ.gskip rg rfl rfl ?_
    refine JJ.gskip rg rfl rfl ?_
    refine JJ.pick (b := false) rg rfl rfl rfl rfl ?_
    refine JJ.assign rg rfl rfl rfl ?_
    refine JJ.regionEnd ?_
    refine JJ.keep _ ?_ (hk2 _ hleM1)
    exact ⟨congrArg (fun b => some (Value.bool b)) (show (false) = (keyB s.data.toList) from by (first | (simp at hg1_3; simp [keyB, *]; done) | (have hne : s.data.toList.isEmpty = false := by (cases h : s.data.toList with | nil => exact absurd h hg1_3 | cons _ _ => rfl); simp [keyB, hne, *]))), trivial⟩
  ·
   have hg1_3b : (!decide (s.data.toList = [])) = false := hg1_3
   replace hg1_3 := not_f hg1_3
   replace hg1_3b := hg1_3
   replace hg1_3 := of_decide_eq_true hg1_3
   refine JJ.gskip rg rfl rfl ?_
   refine JJ.gskip rg rfl rfl ?_
   refine JJ.gskip rg rfl rfl ?_
   refine JJ.pick (b := false) rg rfl rfl rfl rfl ?_
   refine JJ.move rg rfl rfl rfl ?_
   refine JJ.gskip rg rfl rfl ?_
   refine JJ.gskip rg rfl rfl ?_
   refine JJ.gskip rg rfl rfl ?_
   refine JJ.gskip rg rfl rfl ?_
   refine JJ.pick (b := false) rg rfl rfl rfl rfl ?_
   refine JJ.assign rg rfl rfl rfl ?_
   refine JJ.regionEnd ?_
   refine JJ.keep _ ?_ (hk2 _ hleM1)
   exact ⟨congrArg (fun b => some (Value.bool b)) (show (false) = (keyB s.data.toList) from by (first | (simp at hg1_3; simp [keyB, *]; done) | (have hne : s.data.toList.isEmpty = false := by (cases h : s.data.toList with | nil => exact absurd h hg1_3 | cons _ _ => rfl); simp [keyB, hne, *]))), trivial⟩
 ·
  intro I3 hle4
  replace hgl := hgl.mono hle4
  refine JJ.ret1 rfl Try.func61 rfl rfl (fun h h_ => ⟨(), trivial, rfl, trivial⟩)
def idxB (p : Int → Bool) (l : List UInt8) : Int := match l.findIdx? (fun b => p b.toNat) with | some i => i | none => -1
theorem get_bang (s : ByteArray) {j : Nat} {b : UInt8} (h : s.data.toList[j]? = some b) : s.get! j = b := by
  obtain ⟨⟨l⟩⟩ := s
  have h' : l[j]? = some b := h
  obtain ⟨hlt, rfl⟩ := List.getElem?_eq_some_iff.1 h'
  exact getElem!_pos (Array.mk l) j hlt
theorem idx_yes {p : Int → Bool} {s : ByteArray} {j : Nat} (hhi : ∀ r, 128 ≤ r → p r = true) (hj : j < s.size) (hpre : ∀ i b, i < j → s.data.toList[i]? = some b → p b.toNat = false) (h : p ((Utf8.decode s j).1 : Int) = true) : (j : Int) = idxB p s.data.toList := by
  have hlt : j < s.data.toList.length := by rw [Array.length_toList]; exact hj
  have hb := List.getElem?_eq_getElem hlt
  generalize s.data.toList[j] = b at hb
  have hp : p b.toNat = true := by
    by_cases h7 : (s.get! j).toNat < 128
    · rw [decode_lo s j h7, get_bang s hb] at h; exact h
    · rw [get_bang s hb] at h7; exact hhi _ (by omega)
  unfold idxB
  have : s.data.toList.findIdx? (fun b => p b.toNat) = some j := by
    rw [List.findIdx?_eq_some_iff_getElem]
    refine ⟨hlt, ?_, fun i hi => ?_⟩
    · rw [(List.getElem?_eq_some_iff.1 hb).2]; exact hp
    · have := hpre i _ hi (List.getElem?_eq_getElem (by omega)); simpa using this
  rw [this]
theorem idx_no {p : Int → Bool} {s : ByteArray} {j : Nat} (hhi : ∀ r, 128 ≤ r → p r = true) (hj : j < s.size) (h : p ((Utf8.decode s j).1 : Int) = false) : (Utf8.decode s j).2 = 1 ∧ ∀ b, s.data.toList[j]? = some b → p b.toNat = false := by
  by_cases h7 : (s.get! j).toNat < 128
  · rw [decode_lo s j h7] at h ⊢
    refine ⟨rfl, fun b hb => ?_⟩
    rw [get_bang s hb] at h; exact h
  · have := hhi _ (Int.ofNat_le.2 (decode_hi s j h7)); rw [h] at this; cases this
theorem idx_end {p : Int → Bool} {s : ByteArray} {j : Nat} (hj : ¬ j < s.size) (hpre : ∀ i b, i < j → s.data.toList[i]? = some b → p b.toNat = false) : (-1 : Int) = idxB p s.data.toList := by
  unfold idxB
  have : s.data.toList.findIdx? (fun b => p b.toNat) = none := by
    rw [List.findIdx?_eq_none_iff]
    intro b hb
    obtain ⟨i, hi, rfl⟩ := List.getElem_of_mem hb
    refine hpre i _ ?_ (List.getElem?_eq_getElem hi)
    rw [Array.length_toList] at hi; have : s.data.size = s.size := rfl; omega
  rw [this]
theorem indexFunc (I : Hp) (s : ByteArray) (p : Int → Bool) (g : Nat) (fs caps : List Value) (hg : bodyOk Try.prog g = true) (hF : ∀ I1 r, I.le I1 → 0 ≤ r → Fn Try.prog g (fs ++ [Value.int .i32 r] ++ caps).toArray I1 [] (RB (p r))) (hhi : ∀ r, 128 ≤ r → p r = true) (hsz : s.size ≤ 4294967296) : Fn Try.prog 83 #[.string (s), .func (.func g) fs.toArray caps.toArray, .bool true] I [] (RI (idxB p s.data.toList)) := by
 refine Fn.of (args := [_, _, _]) Try.func83 rfl rfl ?_
 refine JJ.seq ?_
 refine JJ.region rfl fun rg => ?_
 refine JJ.assign rg rfl rfl rfl ?_
 refine JJ.regionEnd ?_
 refine JJ.seq ?_
 refine JJ.seq ?_
 refine JJ.region rfl fun rg => ?_
 refine JJ.move rg rfl rfl rfl ?_
 refine JJ.rangeStr st9 rg rfl rfl rfl fun b1 => ?_
 refine JJ.regionEnd ?_
 refine JJ.block ?_
 refine JJ.induct (X := Nat × Hp) (fun x => [(0, .string s), (1, .func (.func g) fs.toArray caps.toArray), (2, .bool true), (10, .pointer (some ⟨b1, 0, none⟩))]) (fun x => x.2) (fun x => [blk b1 (.stringIter s x.1)])
  (fun x => x.1 ≤ s.size ∧ I.le x.2 ∧ ∀ i b, i < x.1 → s.data.toList[i]? = some b → p b.toNat = false) (fun x => s.size - x.1) (0, I) ⟨Nat.zero_le _, .refl _, fun i b h => by omega⟩ (fun h => JJ.keep _ (by repeat (first | exact trivial | refine ⟨rfl, ?_⟩)) h) ?_
 rintro ⟨j, I1⟩ ⟨hj, hle, hpre⟩ ih
 dsimp only at hj hle hpre ih ⊢
 refine JJ.seq ?_
 refine JJ.region rfl fun rg => ?_
 by_cases hnx : j < ByteArray.size s
 ·
  refine JJ.nextStr 0 rg rfl rfl rfl rfl hnx rfl ?_
  dsimp only [List.set]
  refine JJ.extract rg rfl rfl rfl rfl ?_
  refine JJ.regionEnd ?_
  refine JJ.seq ?_
  refine JJ.cond (b := true) rfl ?_
  refine JJ.skip ?_
  refine JJ.block ?_
  refine JJ.seq ?_
  refine JJ.region rfl fun rg => ?_
  refine JJ.extract rg rfl rfl rfl rfl ?_
  refine JJ.extract rg rfl rfl rfl rfl ?_
  refine JJ.assign rg rfl rfl rfl ?_
  refine JJ.assign rg rfl rfl rfl ?_
  refine JJ.regionEnd ?_
  refine JJ.seq ?_
  refine JJ.region rfl fun rg => ?_
  refine JJ.move rg rfl rfl rfl ?_
  refine JJ.move rg rfl rfl rfl ?_
  refine JJ.callp hg rg rfl rfl rfl rfl (hF _ _ hle (by omega)) fun _ I2 hle3 _ => ?_
  replace hle := hle.trans hle3
  refine JJ.move rg rfl rfl rfl ?_
  refine JJ.eqBool ib4 rg rfl rfl rfl rfl ?_
  refine JJ.regionEnd ?_
  refine JJ.cond2 rfl (fun hc4 => ?_) (fun hc4 => ?_)
  ·
   have hc4b : ((p ((Utf8.decode s j).1 : Int)) == true) = true := hc4
   simp only [beq_true] at hc4
   have hres := idx_yes hhi hnx hpre hc4
   refine JJ.seq ?_
   refine JJ.region rfl fun rg => ?_
   refine JJ.move rg rfl rfl rfl ?_
   refine JJ.assign rg rfl rfl rfl ?_
   refine JJ.regionEnd ?_
   refine JJ.ret1 rfl Try.func83 rfl rfl (fun h h_ => ⟨(), trivial, congrArg (Value.int .i64) hres, trivial⟩)
  ·
   have hc4b : ((p ((Utf8.decode s j).1 : Int)) == true) = false := hc4
   simp only [beq_true] at hc4
   obtain ⟨hw1, hbf⟩ := idx_no hhi hnx hc4
   refine JJ.skip ?_
   refine JJ.inBlock ?_
   rw [hw1]
   refine JJ.keep _ ?_ (ih (j + 1, _) ⟨hnx, hle, fun i b hi hb => by rcases Nat.lt_succ_iff_lt_or_eq.1 hi with h | h; exact hpre i b h hb; subst h; exact hbf b hb⟩ (by dsimp only; omega))
   exact ⟨rfl, rfl, rfl, rfl, trivial⟩
 ·
  refine JJ.nextEnd 0 rg rfl rfl rfl rfl hnx ?_
  refine JJ.extract rg rfl rfl rfl rfl ?_
  refine JJ.regionEnd ?_
  refine JJ.seq ?_
  refine JJ.cond (b := false) rfl ?_
  refine JJ.exit rfl ?_
  refine JJ.seq ?_
  refine JJ.region rfl fun rg => ?_
  refine JJ.assign rg rfl rfl rfl ?_
  refine JJ.regionEnd ?_
  have hres := idx_end hnx hpre
  refine JJ.ret1 rfl Try.func83 rfl rfl (fun h h_ => ⟨(), trivial, congrArg (Value.int .i64) hres, trivial⟩)
theorem IndexFunc (I : Hp) (s : ByteArray) (p : Int → Bool) (g : Nat) (fs caps : List Value) (hg : bodyOk Try.prog g = true) (hF : ∀ I1 r, I.le I1 → 0 ≤ r → Fn Try.prog g (fs ++ [Value.int .i32 r] ++ caps).toArray I1 [] (RB (p r))) (hhi : ∀ r, 128 ≤ r → p r = true) (hsz : s.size ≤ 4294967296) : Fn Try.prog 74 #[.string (s), .func (.func g) fs.toArray caps.toArray] I [] (RI (idxB p s.data.toList)) := by
 refine Fn.of (args := [_, _]) Try.func74 rfl rfl ?_
 refine JJ.seq ?_
 refine JJ.region rfl fun rg => ?_
 refine JJ.assign rg rfl rfl rfl ?_
 refine JJ.regionEnd ?_
 refine JJ.seq ?_
 refine JJ.region rfl fun rg => ?_
 refine JJ.move rg rfl rfl rfl ?_
 refine JJ.move rg rfl rfl rfl ?_
 refine JJ.callp bo83 rg rfl rfl rfl rfl (indexFunc _ s p g fs caps hg hF hhi hsz) fun _ I1 hle2 _ => ?_
 refine JJ.assign rg rfl rfl rfl ?_
 refine JJ.regionEnd ?_
 refine JJ.ret1 rfl Try.func74 rfl rfl (fun h h_ => ⟨(), trivial, rfl, trivial⟩)
theorem idxB_range (p : Int → Bool) (l : List UInt8) : idxB p l = -1 ∨ (0 ≤ idxB p l ∧ idxB p l < l.length) := by
  unfold idxB
  cases h : l.findIdx? (fun b => p b.toNat) with
  | none => exact .inl rfl
  | some i => exact .inr ⟨by simp, by have := (List.findIdx?_eq_some_iff_getElem.1 h).1; simp; omega⟩
/-- lex.run: the bytes with which a text begins. -/
def runB (p : Int → Bool) (l : List UInt8) : List UInt8 := l.takeWhile (fun b => p b.toNat)
theorem takeWhile_idx (p : Int → Bool) : ∀ (l : List UInt8), l.takeWhile (fun b => p b.toNat) = match l.findIdx? (fun b => !p b.toNat) with | some i => l.take i | none => l
  | [] => rfl
  | b :: l => by
    rw [List.takeWhile_cons, List.findIdx?_cons, takeWhile_idx p l]
    cases h : p b.toNat with
    | false => simp
    | true =>
      cases h2 : l.findIdx? (fun b => !p b.toNat) with
      | none => simp
      | some i => simp
theorem run1 (I : Hp) (r : Int) (hr : 0 ≤ r) (p : Int → Bool) (g : Nat) (fs caps : List Value) (hg : bodyOk Try.prog g = true) (hF : ∀ I1 r, I.le I1 → 0 ≤ r → Fn Try.prog g (fs ++ [Value.int .i32 r] ++ caps).toArray I1 [] (RB (p r))) (b : Nat) (hb : Row I ⟨b, 0, none⟩ [.func (.func g) fs.toArray caps.toArray]) : Fn Try.prog 75 #[.int .i32 (r), .pointer (some (⟨b, 0, none⟩))] I [] (RB (!p r)) := by
 have hl0 := Hp.le.refl I
 refine Fn.of (args := [_, _]) Try.func75 rfl rfl ?_
 refine JJ.seq ?_
 refine JJ.region rfl fun rg => ?_
 refine JJ.assign rg rfl rfl rfl ?_
 refine JJ.regionEnd ?_
 refine JJ.seq ?_
 refine JJ.region rfl fun rg => ?_
 refine JJ.loadI (v := .func (.func g) fs.toArray caps.toArray) ty113 rg rfl rfl rfl hb rfl ?_
 refine JJ.move rg rfl rfl rfl ?_
 refine JJ.callp hg rg rfl rfl rfl rfl (hF _ _ hl0 (by omega)) fun _ I1 hle2 _ => ?_
 replace hl0 := hl0.trans hle2
 refine JJ.not rg rfl rfl rfl ?_
 refine JJ.assign rg rfl rfl rfl ?_
 refine JJ.regionEnd ?_
 refine JJ.ret1 rfl Try.func75 rfl rfl (fun h h_ => ⟨(), trivial, congrArg (Value.bool) (show (!(p r)) = (!p r) from by simp [*]), trivial⟩)
theorem bytes_eta (s : ByteArray) : (⟨s.data.toList.toArray⟩ : ByteArray) = s := by cases s; simp
theorem size_len (s : ByteArray) : s.data.toList.length = s.size := by rw [Array.length_toList]; rfl
theorem run_all {p : Int → Bool} {l : List UInt8} (h : idxB (fun r => !p r) l < 0) : l = runB p l := by
  unfold runB; rw [takeWhile_idx]
  unfold idxB at h
  cases e : l.findIdx? (fun b => !p b.toNat) with
  | none => rfl
  | some i => rw [e] at h; dsimp only at h; omega
theorem run_part {p : Int → Bool} {l : List UInt8} {n : Nat} (h : idxB (fun r => !p r) l = n) : l.take n = runB p l ∧ n ≤ l.length := by
  unfold runB; rw [takeWhile_idx]
  unfold idxB at h
  cases e : l.findIdx? (fun b => !p b.toNat) with
  | none => rw [e] at h; dsimp only at h; omega
  | some i =>
    rw [e] at h
    have hi : i = n := by dsimp only at h; omega
    subst hi
    exact ⟨rfl, by have := (List.findIdx?_eq_some_iff_getElem.1 e).1; omega⟩
theorem run_self {p : Int → Bool} (l : List UInt8) : runB p l = l ↔ l.all (fun b => p b.toNat) = true := by
  unfold runB
  induction l with
  | nil => simp
  | cons b l ih =>
    rw [List.takeWhile_cons, List.all_cons]
    cases h : p b.toNat with
    | false => simp
    | true => simp [ih]
theorem run (I : Hp) (s : ByteArray) (p : Int → Bool) (g : Nat) (fs caps : List Value) (hg : bodyOk Try.prog g = true) (hF : ∀ I1 r, I.le I1 → 0 ≤ r → Fn Try.prog g (fs ++ [Value.int .i32 r] ++ caps).toArray I1 [] (RB (p r))) (hhi : ∀ r, 128 ≤ r → p r = false) (hsz : s.size ≤ 4294967296) : Fn Try.prog 59 #[.string s, .func (.func g) fs.toArray caps.toArray] I [] (Ret (X := ByteArray) (fun r _ => r.data.toList = runB p s.data.toList) (fun r => .string r) fun _ => []) := by
 have hl0 := Hp.le.refl I
 refine Fn.of (args := [_, _]) Try.func59 rfl rfl ?_
 refine JJ.seq ?_
 refine JJ.region rfl fun rg => ?_
 refine JJ.box (cs := [.func (.func g) fs.toArray caps.toArray]) rg rfl rfl rfl rfl fun b1 => ?_
 refine JJ.assign rg rfl rfl rfl ?_
 refine JJ.regionEnd ?_
 refine JJ.seq ?_
 refine JJ.region rfl fun rg => ?_
 refine JJ.move rg rfl rfl rfl ?_
 refine JJ.share fun I2 hle3 hb4 => ?_
 replace hl0 := hl0.trans hle3
 have hrow5 : Row I2 ⟨b1, 0, none⟩ [.func (.func g) fs.toArray caps.toArray] := Row.of hb4 0
 clear hb4
 refine JJ.makeFunc rg rfl rfl [].toArray [.pointer (some ⟨b1, 0, none⟩)].toArray (fun a hE => by simp []) (fun a hE => by simp [hE.ev (o := .tmp 3) (v := .pointer (some ⟨b1, 0, none⟩)) rfl]) ?_
 refine JJ.callp bo74 rg rfl rfl rfl rfl (IndexFunc _ s (fun r => !p r) 75 [] [.pointer (some ⟨b1, 0, none⟩)] bo75 (fun I1 r hl hr => run1 I1 r hr p g fs caps hg (fun I2 r2 h2 h3 => hF I2 r2 ((hl0.trans hl).trans h2) h3) b1 (hrow5.mono hl)) (fun r h => by simp [hhi r h]) hsz) fun _ I6 hle7 _ => ?_
 replace hrow5 := hrow5.mono hle7
 replace hl0 := hl0.trans hle7
 refine JJ.assign rg rfl rfl rfl ?_
 refine JJ.regionEnd ?_
 refine JJ.seq ?_
 refine JJ.seq ?_
 refine JJ.region rfl fun rg => ?_
 refine JJ.move rg rfl rfl rfl ?_
 refine JJ.bin rg rfl rfl rfl rfl rfl ?_
 refine JJ.regionEnd ?_
 refine JJ.cond2 rfl (fun hc2 => ?_) (fun hc2 => ?_)
 ·
  have hc2b : (decide ((idxB (fun r => !p r) s.data.toList : Int) < 0)) = true := hc2
  replace hc2 := of_decide_eq_true hc2
  refine JJ.seq ?_
  refine JJ.region rfl fun rg => ?_
  refine JJ.move rg rfl rfl rfl ?_
  refine JJ.assign rg rfl rfl rfl ?_
  refine JJ.regionEnd ?_
  refine JJ.ret1 rfl Try.func59 rfl rfl (fun h h_ => ⟨s, run_all hc2, rfl, trivial⟩)
 ·
  have hc2b : (decide ((idxB (fun r => !p r) s.data.toList : Int) < 0)) = false := hc2
  replace hc2 := of_decide_eq_false hc2
  obtain ⟨n, hn⟩ : ∃ n : Nat, idxB (fun r => !p r) s.data.toList = n := ⟨_, (Int.toNat_of_nonneg (by omega)).symm⟩
  obtain ⟨hrp, hnl⟩ := run_part hn
  rw [size_len] at hnl
  rw [hn]
  refine JJ.skip ?_
  refine JJ.seq ?_
  refine JJ.region rfl fun rg => ?_
  refine JJ.move rg rfl rfl rfl ?_
  refine JJ.move rg rfl rfl rfl ?_
  refine JJ.sliceStr (l := 0) (h := n) st9 rg rfl rfl rfl rfl rfl (by omega) (by omega) ?_
  refine JJ.assign rg rfl rfl rfl ?_
  refine JJ.regionEnd ?_
  refine JJ.ret1 rfl Try.func59 rfl rfl (fun h h_ => ⟨_, by dsimp only; rw [show (s.extract 0 n).data.toList = s.data.toList.take n from by rw [Lib.extract_data]; simp]; exact hrp, rfl, trivial⟩)
theorem inner_hi (r : Int) (h : 128 ≤ r) : innerB r = false := by
  simp only [innerB, letterB, digitB, Bool.or_eq_false_iff, Bool.and_eq_false_iff, decide_eq_false_iff_not]; omega
theorem nameB_eq (l : List UInt8) : nameB l = (begB letterB l && decide (l.length ≤ 8) && l.all (fun b => innerB b.toNat) && !keyB l) := rfl
theorem Name (I : Hp) (s : ByteArray) (hgl : GL 0 I) : Fn Try.prog 47 #[.string (s)] I [] (RB (nameB s.data.toList)) := by
 refine Fn.of (args := [_]) Try.func47 rfl rfl ?_
 refine JJ.seq ?_
 refine JJ.region rfl fun rg => ?_
 refine JJ.assign rg rfl rfl rfl ?_
 refine JJ.regionEnd ?_
 refine JJ.seq ?_
 refine JJ.cut (X := Hp) (fun _ => [(2, .bool (nameB s.data.toList))]) (fun x => x) (fun _ => []) (fun x => Hp.le (I) x) (fun hk2 => ?_) ?_
 ·
  have hleM1 := Hp.le.refl (I)
  refine JJ.region rfl fun rg => ?_
  refine JJ.move rg rfl rfl rfl ?_
  refine JJ.callp bo57 rg rfl rfl rfl rfl (begins _ s letterB 58 [] [] bo58 fun I1 r _ _ => letter I1 r) fun _ I5 hle6 _ => ?_
  replace hgl := hgl.mono hle6
  replace hleM1 := hleM1.trans hle6
  refine JJ.move rg rfl rfl rfl ?_
  refine JJ.split 5 rfl (fun hg1_3 => ?_) (fun hg1_3 => ?_)
  ·
   have hg1_3b : (begB letterB s.data.toList) = true := hg1_3
   refine JJ.move rg rfl rfl rfl ?_
   refine JJ.lenString st9 rg rfl rfl rfl ?_
   refine JJ.bin rg rfl rfl rfl rfl rfl ?_
   refine JJ.pick (b := true) rg rfl rfl rfl rfl ?_
   refine JJ.move rg rfl rfl rfl ?_
   refine JJ.split 10 rfl (fun hg1_8 => ?_) (fun hg1_8 => ?_)
   ·
    have hg1_8b : (decide ((((s).size : Int) : Int) ≤ 8)) = true := hg1_8
    replace hg1_8 := of_decide_eq_true hg1_8
    refine JJ.move rg rfl rfl rfl ?_
    refine JJ.callp bo59 rg rfl rfl rfl rfl (run _ s innerB 60 [] [] bo60 (fun I1 r _ _ => inner I1 r) inner_hi (by omega)) fun rs I7 hle8 hrs => ?_
    replace hgl := hgl.mono hle8
    replace hleM1 := hleM1.trans hle8
    refine JJ.move rg rfl rfl rfl ?_
    refine JJ.bin rg rfl rfl rfl rfl rfl ?_
    refine JJ.pick (b := true) rg rfl rfl rfl rfl ?_
    refine JJ.move rg rfl rfl rfl ?_
    refine JJ.split 16 rfl (fun hg1_14 => ?_) (fun hg1_14 => ?_)
    ·
     have hg1_14b : (decide (rs.data.toList = s.data.toList)) = true := hg1_14
     replace hg1_14 := of_decide_eq_true hg1_14
     refine JJ.move rg rfl rfl rfl ?_
     refine JJ.callp bo61 rg rfl rfl rfl rfl (Key _ s hgl (by omega)) fun _ I9 hle10 _ => ?_
     replace hgl := hgl.mono hle10
     replace hleM1 := hleM1.trans hle10
     refine JJ.not rg rfl rfl rfl ?_
     refine JJ.pick (b := true) rg rfl rfl rfl rfl ?_
     refine JJ.assign rg rfl rfl rfl ?_
     refine JJ.regionEnd ?_
     refine JJ.keep _ ?_ (hk2 _ hleM1)
     exact ⟨congrArg (fun b => some (Value.bool b)) (show (!(keyB s.data.toList)) = (nameB s.data.toList) from by (rw [nameB_eq, size_len]; first | (simp only [hg1_3, decide_true, decide_false, Bool.and_true, Bool.true_and, Bool.and_false, Bool.false_and]; done) | (have e8 : ¬ s.size ≤ 8 := (by omega); simp only [e8, decide_true, decide_false, Bool.and_true, Bool.true_and, Bool.and_false, Bool.false_and]; done) | (have e8 : s.size ≤ 8 := (by omega); rw [hrs, run_self] at hg1_14; (try rw [Bool.not_eq_true] at hg1_14); simp only [hg1_3, e8, hg1_14, decide_true, decide_false, Bool.and_true, Bool.true_and, Bool.and_false, Bool.false_and]; done))), trivial⟩
    ·
     have hg1_14b : (decide (rs.data.toList = s.data.toList)) = false := hg1_14
     replace hg1_14 := of_decide_eq_false hg1_14
     refine JJ.gskip rg rfl rfl ?_
     refine JJ.gskip rg rfl rfl ?_
     refine JJ.gskip rg rfl rfl ?_
     refine JJ.pick (b := false) rg rfl rfl rfl rfl ?_
     refine JJ.assign rg rfl rfl rfl ?_
     refine JJ.regionEnd ?_
     refine JJ.keep _ ?_ (hk2 _ hleM1)
     exact ⟨congrArg (fun b => some (Value.bool b)) (show (false) = (nameB s.data.toList) from by (rw [nameB_eq, size_len]; first | (simp only [hg1_3, decide_true, decide_false, Bool.and_true, Bool.true_and, Bool.and_false, Bool.false_and]; done) | (have e8 : ¬ s.size ≤ 8 := (by omega); simp only [e8, decide_true, decide_false, Bool.and_true, Bool.true_and, Bool.and_false, Bool.false_and]; done) | (have e8 : s.size ≤ 8 := (by omega); rw [hrs, run_self] at hg1_14; (try rw [Bool.not_eq_true] at hg1_14); simp only [hg1_3, e8, hg1_14, decide_true, decide_false, Bool.and_true, Bool.true_and, Bool.and_false, Bool.false_and]; done))), trivial⟩
   ·
    have hg1_8b : (decide ((((s).size : Int) : Int) ≤ 8)) = false := hg1_8
    replace hg1_8 := of_decide_eq_false hg1_8
    refine JJ.gskip rg rfl rfl ?_
    refine JJ.gskip rg rfl rfl ?_
    refine JJ.gskip rg rfl rfl ?_
    refine JJ.gskip rg rfl rfl ?_
    refine JJ.pick (b := false) rg rfl rfl rfl rfl ?_
    refine JJ.move rg rfl rfl rfl ?_
    refine JJ.gskip rg rfl rfl ?_
    refine JJ.gskip rg rfl rfl ?_
    refine JJ.gskip rg rfl rfl ?_
    refine JJ.pick (b := false) rg rfl rfl rfl rfl ?_
    refine JJ.assign rg rfl rfl rfl ?_
    refine JJ.regionEnd ?_
    refine JJ.keep _ ?_ (hk2 _ hleM1)
    exact ⟨congrArg (fun b => some (Value.bool b)) (show (false) = (nameB s.data.toList) from by (rw [nameB_eq, size_len]; first | (simp only [hg1_3, decide_true, decide_false, Bool.and_true, Bool.true_and, Bool.and_false, Bool.false_and]; done) | (have e8 : ¬ s.size ≤ 8 := (by omega); simp only [e8, decide_true, decide_false, Bool.and_true, Bool.true_and, Bool.and_false, Bool.false_and]; done) | (have e8 : s.size ≤ 8 := (by omega); rw [hrs, run_self] at hg1_14; (try rw [Bool.not_eq_true] at hg1_14); simp only [hg1_3, e8, hg1_14, decide_true, decide_false, Bool.and_true, Bool.true_and, Bool.and_false, Bool.false_and]; done))), trivial⟩
  ·
   have hg1_3b : (begB letterB s.data.toList) = false := hg1_3
   refine JJ.gskip rg rfl rfl ?_
   refine JJ.gskip rg rfl rfl ?_
   refine JJ.gskip rg rfl rfl ?_
   refine JJ.pick (b := false) rg rfl rfl rfl rfl ?_
   refine JJ.move rg rfl rfl rfl ?_
   refine JJ.gskip rg rfl rfl ?_
   refine JJ.gskip rg rfl rfl ?_
   refine JJ.gskip rg rfl rfl ?_
   refine JJ.gskip rg rfl rfl ?_
   refine JJ.pick (b := false) rg rfl rfl rfl rfl ?_
   refine JJ.move rg rfl rfl rfl ?_
   refine JJ.gskip rg rfl rfl ?_
   refine JJ.gskip rg rfl rfl ?_
   refine JJ.gskip rg rfl rfl ?_
   refine JJ.pick (b := false) rg rfl rfl rfl rfl ?_
   refine JJ.assign rg rfl rfl rfl ?_
   refine JJ.regionEnd ?_
   refine JJ.keep _ ?_ (hk2 _ hleM1)
   exact ⟨congrArg (fun b => some (Value.bool b)) (show (false) = (nameB s.data.toList) from by (rw [nameB_eq, size_len]; first | (simp only [hg1_3, decide_true, decide_false, Bool.and_true, Bool.true_and, Bool.and_false, Bool.false_and]; done) | (have e8 : ¬ s.size ≤ 8 := (by omega); simp only [e8, decide_true, decide_false, Bool.and_true, Bool.true_and, Bool.and_false, Bool.false_and]; done) | (have e8 : s.size ≤ 8 := (by omega); rw [hrs, run_self] at hg1_14; (try rw [Bool.not_eq_true] at hg1_14); simp only [hg1_3, e8, hg1_14, decide_true, decide_false, Bool.and_true, Bool.true_and, Bool.and_false, Bool.false_and]; done))), trivial⟩
 ·
  intro I3 hle4
  replace hgl := hgl.mono hle4
  refine JJ.ret1 rfl Try.func47 rfl rfl (fun h h_ => ⟨(), trivial, rfl, trivial⟩)
end Wb
end Go.Proofs.Ytlcdafeoionnhaa
