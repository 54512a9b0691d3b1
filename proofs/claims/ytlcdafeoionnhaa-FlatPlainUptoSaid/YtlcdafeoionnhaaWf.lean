/- Walks of functions, printed by a program of this session (wip/tool/eng.py). -/
import Derived.Test.YtlcdafeoionnhaaProg
import Derived.Test.YtlcdafeoionnhaaSize
import Derived.Test.YtlcdafeoionnhaaSpecA
import Derived.Test.YtlcdafeoionnhaaIter
namespace Go.Proofs.Ytlcdafeoionnhaa
open Go
set_option linter.unusedVariables false
set_option linter.unusedSimpArgs false
namespace Wf
theorem bo18 : bodyOk Try.prog 18 = true := by kernel_rfl
theorem bo37 : bodyOk Try.prog 37 = true := by kernel_rfl
theorem eo23 : elemO Try.prog 23 = some (35, 7) := by kernel_rfl
theorem eo57 : elemO Try.prog 57 = some (23, 1) := by kernel_rfl
theorem fo35_4 : fieldO Try.prog 35 4 = some 4 := by kernel_rfl
theorem fo35_5 : fieldO Try.prog 35 5 = some 5 := by kernel_rfl
theorem ss23 : isSliceT Try.prog 23 = true := by kernel_rfl
theorem ss57 : isSliceT Try.prog 57 = true := by kernel_rfl
theorem ty23 : tyI Try.prog 23 = some (false, 1) := by kernel_rfl
theorem ty35 : tyI Try.prog 35 = some (true, 7) := by kernel_rfl
theorem ty82 : tyI Try.prog 82 = some (false, 1) := by kernel_rfl
theorem zo23 : zeroOf Try.prog 23 = some (.slice none 0 0) := by kernel_rfl
theorem zo35 : zeroOf Try.prog 35 = some (.agg #[.int .i64 0, .string ⟨#[]⟩, .int .i64 0, .slice none 0 0, .slice none 0 0, .slice none 0 0, .bool false]) := by kernel_rfl
theorem walk (I : Hp) (A : Option Addr) (n cp : Nat) : Fn Try.prog 18 #[.slice A n cp] I [] (Ret (X := Nat) (fun b I' => Row I' ⟨b, 0, none⟩ [.slice A n cp]) (fun b => .func (.func 37) [].toArray [.pointer (some ⟨b, 0, none⟩)].toArray) fun _ => []) := by
 refine Fn.of (args := [_]) Try.func18 rfl rfl ?_
 refine JJ.seq ?_
 refine JJ.region rfl fun rg => ?_
 refine JJ.box (cs := [.slice (A) (n) (cp)]) rg rfl rfl rfl rfl fun b1 => ?_
 refine JJ.assign rg rfl rfl rfl ?_
 refine JJ.regionEnd ?_
 refine JJ.seq ?_
 refine JJ.region rfl fun rg => ?_
 refine JJ.share fun I2 hle3 hb4 => ?_
 have hrow5 : Row I2 ⟨b1, 0, none⟩ [.slice (A) (n) (cp)] := Row.of hb4 0
 clear hb4
 refine JJ.makeFunc rg rfl rfl [].toArray [.pointer (some ⟨b1, 0, none⟩)].toArray (fun a hE => by simp []) (fun a hE => by simp [hE.ev (o := .tmp 1) (v := .pointer (some ⟨b1, 0, none⟩)) rfl]) ?_
 refine JJ.assign rg rfl rfl rfl ?_
 refine JJ.regionEnd ?_
 refine JJ.ret1 rfl Try.func18 rfl rfl (fun h h_ => ⟨b1, hrow5, rfl, trivial⟩)
def ReS (k : Nat) (I : Hp) (vs : List Value) (d : St) : Prop := ∃ cs, vs = [.agg cs.toArray] ∧ RS k I cs d
theorem ReS.more {k k' : Nat} {I : Hp} {vs : List Value} {d : St} (h : ReS k I vs d) (l : k ≤ k') : ReS k' I vs d := let ⟨cs, e, r⟩ := h; ⟨cs, e, r.more l⟩
theorem alls_append (l m : List St) : St.alls (l ++ m) = St.alls l ++ St.alls m := by simp only [St.alls_flat, List.map_append, List.flatten_append]
theorem walk_at {ds : List St} {j : Nat} {d : St} (hd : ds[j]? = some d) : St.alls ds = St.alls (ds.take j) ++ (d.all ++ St.alls (ds.drop (j + 1))) := by
  have : ds = ds.take j ++ (d :: ds.drop (j + 1)) := by
    obtain ⟨hlt, rfl⟩ := List.getElem?_eq_some_iff.1 hd
    rw [← List.drop_eq_getElem_cons hlt, List.take_append_drop]
  conv => lhs; rw [this]
  rw [alls_append]; rfl
theorem walk_take {ds : List St} {j : Nat} {d : St} (hd : ds[j]? = some d) : St.alls (ds.take (j + 1)) = St.alls (ds.take j) ++ d.all := by
  rw [List.take_add_one, hd, alls_append]; simp [St.alls]
theorem all_mem {ds : List St} {d x : St} (hd : d ∈ ds) (hx : x ∈ d.all) : x ∈ St.alls ds := by
  rw [St.alls_flat]; exact List.mem_flatten.2 ⟨_, List.mem_map.2 ⟨d, hd, rfl⟩, hx⟩
theorem pr_at {ds : List (List St)} {j : Nat} {d : List St} (hd : ds[j]? = some d) : (ds.map St.alls).flatten = ((ds.take j).map St.alls).flatten ++ (St.alls d ++ ((ds.drop (j + 1)).map St.alls).flatten) := by
  have : ds = ds.take j ++ (d :: ds.drop (j + 1)) := by
    obtain ⟨hlt, rfl⟩ := List.getElem?_eq_some_iff.1 hd
    rw [← List.drop_eq_getElem_cons hlt, List.take_append_drop]
  conv => lhs; rw [this]
  simp
theorem pr_take {ds : List (List St)} {j : Nat} {d : List St} (hd : ds[j]? = some d) : ((ds.take (j + 1)).map St.alls).flatten = ((ds.take j).map St.alls).flatten ++ St.alls d := by
  rw [List.take_add_one, hd]; simp
theorem all_pr (d : St) : d.all = d :: ([d.body, d.els].map St.alls).flatten := by rw [St.all_eq]; simp
def WalkOk (N : Nat) : Prop := ∀ (k : Nat) (I : Hp) (b : Nat) (A : Option Addr) (n cp : Nat) (ds : List St), RSs k I A n cp ds → Row I ⟨b, 0, none⟩ [.slice A n cp] → St.szl ds ≤ 4294967296 → St.szl ds < N →
  Iter Try.prog 37 (fun y => ([] ++ [y] ++ [Value.pointer (some ⟨b, 0, none⟩)]).toArray) I (ReS k) (St.alls ds)
theorem walk1 : ∀ N, WalkOk N := by
 intro N
 induction N with
 | zero => intro k I b A n cp ds _ _ _ h; exact absurd h (by omega)
 | succ N ih =>
 intro k I0 b A n cp ds hx hb hsz hlt S l Φ Y st I s0 hle0 hrs hphi0
 replace hx := hx.mono hle0
 replace hb := hb.mono hle0
 have hll := St.szl_len ds
 have hnn := hx.1
 obtain rfl := hx.1
 show Fn _ _ [_, _].toArray _ _ _
 have hl0 := Hp.le.refl I
 refine Fn.of (args := [_, _]) Try.func37 rfl rfl ?_
 refine JJ.seq ?_
 refine JJ.region rfl fun rg => ?_
 refine JJ.box (cs := [.func (.yield l) #[] #[]]) rg rfl rfl rfl rfl fun b1 => ?_
 refine JJ.regionEnd ?_
 refine JJ.seq ?_
 refine JJ.region rfl fun rg => ?_
 refine JJ.share fun I2 hle3 hb4 => ?_
 replace hb := hb.mono hle3
 replace hx := hx.mono hle3
 replace hl0 := hl0.trans hle3
 have hrow5 : Row I2 ⟨b1, 0, none⟩ [.func (.yield l) #[] #[]] := Row.of hb4 0
 clear hb4
 refine JJ.loadI (v := .slice (A) (ds.length) (cp)) ty23 rg rfl rfl rfl hb rfl ?_
 refine JJ.lenSlice ss23 rg rfl rfl rfl ?_
 refine JJ.move rg rfl rfl rfl ?_
 refine JJ.regionEnd ?_
 refine JJ.block ?_
 refine JJ.marks0 ?_
 refine JJ.inductD (X := Nat × Hp × S × List Nat) (fun x => [(1, .pointer (some ⟨b, 0, none⟩)), (2, .pointer (some ⟨b1, 0, none⟩)), (8, .slice A ds.length cp), (9, .int .i64 ds.length), (10, .int .i64 x.1)]) (fun x => marks x.2.2.2) (fun x => x.2.1) (fun x => mks x.2.2.2 :: Y x.2.2.1 true)
  (fun x => x.1 ≤ ds.length ∧ Hp.le I2 x.2.1 ∧ Up (Φ x.2.2.1) x.2.1 ∧ Runs st s0 (St.alls (ds.take x.1)) x.2.2.1 true) (fun x => ds.length - x.1) (0, I2, s0, []) ⟨Nat.zero_le _, .refl _, fun _ l => hrs.1 _ _ _ (hl0.trans l) hphi0, .nil⟩ (fun h => JJ.keep _ (by repeat (first | exact trivial | refine ⟨rfl, ?_⟩)) h) ?_
 rintro ⟨j, I1, s, bs⟩ ⟨hj, hle, hphi, hrun⟩ ih1
 dsimp only at hj hle hphi hrun ih1 ⊢
 replace hb := hb.mono hle
 replace hx := hx.mono hle
 replace hrow5 := hrow5.mono hle
 replace hl0 := hl0.trans hle
 refine JJ.seq ?_
 refine JJ.region rfl fun rg => ?_
 refine JJ.bin rg rfl rfl rfl rfl rfl ?_
 refine JJ.regionEnd ?_
 refine JJ.seq ?_
 refine JJ.cond2 rfl (fun hc2 => ?_) (fun hc2 => ?_)
 ·
  have hc2b : (decide ((((j : Nat) : Int) : Int) < ((ds.length : Nat) : Int))) = true := hc2
  replace hc2 := of_decide_eq_true hc2
  have hlt1 : j < ds.length := by omega
  obtain ⟨d, hd⟩ : ∃ d, ds[j]? = some d := ⟨_, List.getElem?_eq_getElem hlt1⟩
  have hdm := List.mem_of_getElem? hd
  have hdz := St.szl_mem hdm
  have hdz2 := d.sz_eq
  refine JJ.skip ?_
  refine JJ.seq ?_
  refine JJ.block ?_
  refine JJ.seq ?_
  refine JJ.region rfl fun rg => ?_
  obtain ⟨a, cs, hA, hcap, hcl, hre, hrow⟩ := RSl.get hx hd
  cases hA
  have hre0 := hre
  obtain ⟨A0, m0, cp0, A1, m1, cp1, A2, m2, cp2, rfl, hx0, hx1, hx2⟩ := RS.open hre
  refine JJ.indexAddr (a' := a.add (j * 7)) eo23 rg rfl rfl rfl rfl (by omega) (by omega) rfl ?_
  refine JJ.loadI (v := .agg #[.int .i64 (d.op), .string (d.s), .int .i64 (d.n), .slice (A0) (m0) (cp0), .slice (A1) (m1) (cp1), .slice (A2) (m2) (cp2), .bool (d.commit)]) ty35 rg rfl rfl rfl hrow rfl ?_
  refine JJ.alloc (cs := [.int .i64 0, .string (⟨#[]⟩), .int .i64 0, .slice (none) (0) (0), .slice (none) (0) (0), .slice (none) (0) (0), .bool false]) zo35 rfl rg rfl rfl fun b6 => ?_
  refine JJ.store (cs' := [.int .i64 (d.op), .string (d.s), .int .i64 (d.n), .slice (A0) (m0) (cp0), .slice (A1) (m1) (cp1), .slice (A2) (m2) (cp2), .bool (d.commit)]) ty35 0 rg rfl rfl rfl rfl rfl rfl rfl rfl rfl rfl rfl ?_
  refine JJ.regionEnd ?_
  refine JJ.seq ?_
  refine JJ.seq ?_
  refine JJ.region rfl fun rg => ?_
  refine JJ.loadI (v := .func (.yield l) #[] #[]) ty82 rg rfl rfl rfl hrow5 rfl ?_
  refine JJ.loadL (v := .agg #[.int .i64 (d.op), .string (d.s), .int .i64 (d.n), .slice (A0) (m0) (cp0), .slice (A1) (m1) (cp1), .slice (A2) (m2) (cp2), .bool (d.commit)]) ty35 0 rg rfl rfl rfl rfl rfl ?_
  (try dsimp only [List.set])
  refine JJ.callY (Lr := [_, _]) rg rfl rfl rfl rfl (hrs.2 s _ _ d hl0 ⟨_, _, by rw [walk_at hd, all_pr]; rfl, hrun⟩ hphi.now ⟨_, rfl, hre0⟩) (fun h q => Sat.rot (A := [_, _]) (B := Y s true) q) ?_
  rintro ⟨s10, g11⟩ I7 hle8 ⟨hst12, hphi9⟩
  dsimp only at hst12 hphi9
  refine JJ.res (L' := [_, _] ++ Y s10 g11) (fun h q => Sat.rot (B := [_, _]) q) ?_
  dsimp only [List.cons_append, List.nil_append]
  replace hb := hb.mono hle8
  replace hx := hx.mono hle8
  replace hrow5 := hrow5.mono hle8
  replace hphi := hphi.mono hle8
  replace hre0 := hre0.mono hle8
  replace hx1 := hx1.mono hle8
  replace hx2 := hx2.mono hle8
  replace hl0 := hl0.trans hle8
  replace hle := hle.trans hle8
  replace hphi9 : Up (Φ s10) _ := fun _ l => hrs.1 _ _ _ l hphi9
  refine JJ.not rg rfl rfl rfl ?_
  refine JJ.regionEnd ?_
  refine JJ.cond2 rfl (fun hc4 => ?_) (fun hc4 => ?_)
  ·
   have hc4b : (!g11) = true := hc4
   replace hc4 := not_t hc4
   replace hc4b := hc4
   subst hc4
   refine JJ.pull 1 rfl rfl ?_
   refine JJ.pull 1 rfl rfl ?_
   refine JJ.drop ?_
   have hfin : Runs st s0 (St.alls ds) s10 false := by rw [walk_at hd, all_pr]; exact hrun.append (.stop hst12)
   exact JJ.ret0m rfl Try.func37 rfl (fun h q => ⟨(.tuple #[], s10, false), ⟨hfin, hphi9.now⟩, rfl, q⟩)
  ·
   have hc4b : (!g11) = false := hc4
   replace hc4 := not_f hc4
   replace hc4b := hc4
   subst hc4
   refine JJ.skip ?_
   refine JJ.seq ?_
   refine JJ.region rfl fun rg => ?_
   refine JJ.fieldAddr (a' := ⟨b6, 4, none⟩) fo35_4 rg rfl rfl rfl rfl ?_
   refine JJ.loadL (v := .slice (A1) (m1) (cp1)) ty23 0 rg rfl rfl rfl rfl rfl ?_
   refine JJ.fieldAddr (a' := ⟨b6, 5, none⟩) fo35_5 rg rfl rfl rfl rfl ?_
   refine JJ.loadL (v := .slice (A2) (m2) (cp2)) ty23 0 rg rfl rfl rfl rfl rfl ?_
   refine JJ.buildSlice (cs := [.slice (A1) (m1) (cp1), .slice (A2) (m2) (cp2)]) eo57 zo23 rg rfl rfl rfl rfl rfl rfl rfl fun b13 => ?_
   refine JJ.lenSlice ss57 rg rfl rfl rfl ?_
   refine JJ.move rg rfl rfl rfl ?_
   refine JJ.regionEnd ?_
   refine JJ.share fun I14 hle15 hb16 => ?_
   replace hb := hb.mono hle15
   replace hx := hx.mono hle15
   replace hrow5 := hrow5.mono hle15
   replace hphi := hphi.mono hle15
   replace hre0 := hre0.mono hle15
   replace hx1 := hx1.mono hle15
   replace hx2 := hx2.mono hle15
   replace hphi9 := hphi9.mono hle15
   replace hl0 := hl0.trans hle15
   replace hle := hle.trans hle15
   have hrow17 : Row I14 ⟨b13, 0, none⟩ [.slice (A1) (m1) (cp1), .slice (A2) (m2) (cp2)] := Row.of hb16 0
   clear hb16
   have hpr : RSxs (k - 1) I14 (some ⟨b13, 0, none⟩) 2 2 [d.body, d.els] := RSl.of (css := [[.slice A1 m1 cp1], [.slice A2 m2 cp2]]) (.inr ⟨_, rfl, by omega, hrow17⟩) rfl (.cons ⟨rfl, _, _, _, rfl, hx1⟩ (.cons ⟨rfl, _, _, _, rfl, hx2⟩ .nil))
   refine JJ.pull 1 rfl rfl ?_
   refine JJ.pull 1 rfl rfl ?_
   refine JJ.drop ?_
   refine JJ.block ?_
   have hl2 := Hp.le.refl I14
   refine JJ.inductD (X := Nat × Hp × S × List Nat) (fun x => [(1, .pointer (some ⟨b, 0, none⟩)), (2, .pointer (some ⟨b1, 0, none⟩)), (8, .slice (some a) ds.length cp), (9, .int .i64 ds.length), (10, .int .i64 j), (22, .slice (some ⟨b13, 0, none⟩) (2) (2)), (23, .int .i64 2), (24, .int .i64 x.1)]) (fun x => marks x.2.2.2) (fun x => x.2.1) (fun x => mks x.2.2.2 :: Y x.2.2.1 true)
    (fun x => x.1 ≤ 2 ∧ Hp.le I14 x.2.1 ∧ Up (Φ x.2.2.1) x.2.1 ∧ Runs st s10 (([d.body, d.els].take x.1).map St.alls).flatten x.2.2.1 true) (fun x => 2 - x.1) (0, I14, s10, bs) ⟨Nat.zero_le _, .refl _, hphi9, .nil⟩ (fun h => JJ.keep _ (by repeat (first | exact trivial | refine ⟨rfl, ?_⟩)) h) ?_
   rintro ⟨i, I3, s2, bs2⟩ ⟨hi, hle3, hphi3, hrun2⟩ ih2
   dsimp only at hi hle3 hphi3 hrun2 ih2 ⊢
   replace hb := hb.mono hle3
   replace hx := hx.mono hle3
   replace hrow5 := hrow5.mono hle3
   replace hphi := hphi.mono hle3
   replace hre0 := hre0.mono hle3
   replace hx1 := hx1.mono hle3
   replace hx2 := hx2.mono hle3
   replace hphi9 := hphi9.mono hle3
   replace hrow17 := hrow17.mono hle3
   replace hpr := hpr.mono hle3
   replace hl0 := hl0.trans hle3
   replace hle := hle.trans hle3
   refine JJ.seq ?_
   refine JJ.region rfl fun rg => ?_
   refine JJ.bin rg rfl rfl rfl rfl rfl ?_
   refine JJ.regionEnd ?_
   refine JJ.seq ?_
   refine JJ.cond2 rfl (fun hc6 => ?_) (fun hc6 => ?_)
   ·
    have hc6b : (decide ((((i : Nat) : Int) : Int) < 2)) = true := hc6
    replace hc6 := of_decide_eq_true hc6
    have hlt2 : i < 2 := by omega
    obtain ⟨y, hy1⟩ : ∃ y, [d.body, d.els][i]? = some y := ⟨_, List.getElem?_eq_getElem (by simpa using hlt2)⟩
    have hym : y = d.body ∨ y = d.els := by have := List.mem_of_getElem? hy1; simpa using this
    have hyz : St.szl y < N ∧ St.szl y ≤ 4294967296 := by rcases hym with rfl | rfl <;> constructor <;> omega
    refine JJ.skip ?_
    refine JJ.seq ?_
    refine JJ.block ?_
    refine JJ.seq ?_
    refine JJ.region rfl fun rg => ?_
    obtain ⟨a2, cs2, hA2, hcap2, hcl2, hre2, hrow2⟩ := RSl.get hpr hy1
    cases hA2
    obtain ⟨B0, n0, q0, rfl, hz0⟩ := hre2
    refine JJ.indexAddr (a' := (⟨b13, 0, none⟩ : Addr).add (i * 1)) eo57 rg rfl rfl rfl rfl (by omega) (by omega) rfl ?_
    refine JJ.loadI (v := .slice (B0) (n0) (q0)) ty23 rg rfl rfl rfl hrow2 rfl ?_
    refine JJ.assign rg rfl rfl rfl ?_
    refine JJ.regionEnd ?_
    refine JJ.seq ?_
    refine JJ.region rfl fun rg => ?_
    refine JJ.move rg rfl rfl rfl ?_
    refine JJ.callp bo18 rg rfl rfl rfl rfl (walk _ B0 n0 q0) fun bw I18 hle19 hbw => ?_
    replace hb := hb.mono hle19
    replace hx := hx.mono hle19
    replace hrow5 := hrow5.mono hle19
    replace hre0 := hre0.mono hle19
    replace hx1 := hx1.mono hle19
    replace hx2 := hx2.mono hle19
    replace hrow17 := hrow17.mono hle19
    replace hpr := hpr.mono hle19
    replace hphi3 := hphi3.mono hle19
    replace hz0 := hz0.mono hle19
    replace hl0 := hl0.trans hle19
    replace hle := hle.trans hle19
    replace hle3 := hle3.trans hle19
    refine JJ.regionEnd ?_
    refine JJ.block ?_
    have hit := ih (k - 1) I18 bw B0 n0 q0 y hz0 hbw hyz.2 hyz.1
    refine JJ.rangeFunc (Lr := []) Φ Y st (fun _ => .ret) s2 rfl bo37 rfl rfl hit (fun _ _ _ h => by obtain ⟨_, rfl, _⟩ := h; rfl) hrs.1 hphi3.now (fun h q => Sat.rot (A := [mks bs2]) q) ?_ ?_
    ·
     intro l2 s4 I4 vs d4 hle4 hd4 hphi4 hre4
     obtain ⟨cs4, rfl, hre4⟩ := hre4
     obtain ⟨pre4, post4, he4, hr4⟩ := hd4
     replace hb := hb.mono hle4
     replace hx := hx.mono hle4
     replace hrow5 := hrow5.mono hle4
     replace hre0 := hre0.mono hle4
     replace hx1 := hx1.mono hle4
     replace hx2 := hx2.mono hle4
     replace hrow17 := hrow17.mono hle4
     replace hpr := hpr.mono hle4
     replace hphi3 := hphi3.mono hle4
     replace hz0 := hz0.mono hle4
     replace hbw := hbw.mono hle4
     replace hl0 := hl0.trans hle4
     replace hle := hle.trans hle4
     replace hle3 := hle3.trans hle4
     replace hphi4 : Up (Φ s4) I4 := fun _ l => hrs.1 _ _ _ l hphi4
     refine JJ.region rfl fun rg => ?_
     refine JJ.alloc (cs := [.int .i64 0, .string (⟨#[]⟩), .int .i64 0, .slice (none) (0) (0), .slice (none) (0) (0), .slice (none) (0) (0), .bool false]) zo35 rfl rg rfl rfl fun b20 => ?_
     refine JJ.store (cs' := cs4) ty35 0 rg rfl rfl rfl rfl rfl rfl (by simp [hre4.len]) (by simpa using hre4.one) (by simp [hre4.len]) (stC_all (by simp [hre4.len])) rfl ?_
     refine JJ.regionEnd ?_
     refine JJ.pull 1 rfl rfl ?_
     refine JJ.beginRound rfl ?_
     refine JJ.block ?_
     refine JJ.seq ?_
     refine JJ.region rfl fun rg => ?_
     refine JJ.loadI (v := .func (.yield l) #[] #[]) ty82 rg rfl rfl rfl hrow5 rfl ?_
     refine JJ.loadL (v := .agg (cs4).toArray) ty35 1 rg rfl rfl rfl rfl (ldV_all hre4.len) ?_
     (try dsimp only [List.set])
     refine JJ.callY (Lr := [_, _]) rg rfl rfl rfl rfl (hrs.2 s4 _ _ d4 hl0 ⟨St.alls (ds.take j) ++ d :: ((([d.body, d.els].take i).map St.alls).flatten ++ pre4), post4 ++ ((([d.body, d.els].drop (i + 1)).map St.alls).flatten ++ St.alls (ds.drop (j + 1))), by rw [walk_at hd, all_pr, pr_at hy1, he4]; simp only [List.append_assoc, List.cons_append], hrun.append (.go hst12 (hrun2.append hr4))⟩ hphi4.now (ReS.more ⟨_, rfl, hre4⟩ (Nat.sub_le _ _))) (fun h q => Sat.rot (A := [_, _]) (B := Y s4 true) q) ?_
     rintro ⟨s24, g25⟩ I21 hle22 ⟨hst26, hphi23⟩
     dsimp only at hst26 hphi23
     refine JJ.res (L' := [_, _] ++ Y s24 g25) (fun h q => Sat.rot (B := [_, _]) q) ?_
     dsimp only [List.cons_append, List.nil_append]
     replace hb := hb.mono hle22
     replace hx := hx.mono hle22
     replace hrow5 := hrow5.mono hle22
     replace hre0 := hre0.mono hle22
     replace hx1 := hx1.mono hle22
     replace hx2 := hx2.mono hle22
     replace hrow17 := hrow17.mono hle22
     replace hpr := hpr.mono hle22
     replace hphi3 := hphi3.mono hle22
     replace hz0 := hz0.mono hle22
     replace hbw := hbw.mono hle22
     replace hphi4 := hphi4.mono hle22
     replace hre4 := hre4.mono hle22
     replace hl0 := hl0.trans hle22
     replace hle := hle.trans hle22
     replace hle3 := hle3.trans hle22
     replace hphi23 : Up (Φ s24) _ := fun _ l => hrs.1 _ _ _ l hphi23
     refine JJ.not rg rfl rfl rfl ?_
     refine JJ.regionEnd ?_
     refine JJ.cond2 rfl (fun hc10 => ?_) (fun hc10 => ?_)
     ·
      have hc10b : (!g25) = true := hc10
      replace hc10 := not_t hc10
      replace hc10b := hc10
      subst hc10
      refine JJ.pull 1 rfl rfl ?_
      refine JJ.drop ?_
      exact JJ.roundRet rfl (fun h q => ⟨_, _, rfl, hst26, hphi23.now, q⟩)
     ·
      have hc10b : (!g25) = false := hc10
      replace hc10 := not_f hc10
      replace hc10b := hc10
      subst hc10
      refine JJ.skip ?_
      refine JJ.inBlock ?_
      refine JJ.pull 1 rfl rfl ?_
      refine JJ.drop ?_
      exact JJ.roundEnd rfl (fun h q => ⟨_, _, rfl, hst26, hphi23.now, q⟩)
    ·
     intro bm I6 s3 z2 hle6 hz hphi6
     replace hb := hb.mono hle6
     replace hx := hx.mono hle6
     replace hrow5 := hrow5.mono hle6
     replace hre0 := hre0.mono hle6
     replace hx1 := hx1.mono hle6
     replace hx2 := hx2.mono hle6
     replace hrow17 := hrow17.mono hle6
     replace hpr := hpr.mono hle6
     replace hphi3 := hphi3.mono hle6
     replace hz0 := hz0.mono hle6
     replace hbw := hbw.mono hle6
     replace hl0 := hl0.trans hle6
     replace hle := hle.trans hle6
     replace hle3 := hle3.trans hle6
     rw [List.append_nil]
     replace hphi6 : Up (Φ s3) I6 := fun _ l => hrs.1 _ _ _ l hphi6
     cases z2 with
     | false =>
      rw [if_neg (by simp), List.cons_append, List.nil_append]
      have hfin : Runs st s0 (St.alls ds) s3 false := by rw [walk_at hd, all_pr, pr_at hy1]; exact hrun.append (.stops (.go hst12 (hrun2.append hz.stops)))
      exact JJ.ret0m rfl Try.func37 rfl (fun h q => ⟨(.tuple #[], s3, false), ⟨hfin, hphi6.now⟩, rfl, q⟩)
     | true =>
      rw [if_pos rfl, List.nil_append]
      refine JJ.inBlock ?_
      refine JJ.inBlock ?_
      refine JJ.region rfl fun rg => ?_
      refine JJ.binI (z := ((i + 1 : Nat) : Int)) rg rfl rfl rfl rfl rfl (wrap_to (by omega) (by omega) (by omega)) ?_
      refine JJ.move rg rfl rfl rfl ?_
      refine JJ.regionEnd ?_
      refine JJ.keep _ ?_ (ih2 (i + 1, _, s3, bm :: bs2) ⟨hlt2, hle3, hphi6, by rw [pr_take hy1]; exact hrun2.append hz⟩ (by dsimp only; omega))
      repeat (first | exact trivial | refine ⟨rfl, ?_⟩)
   ·
    have hc6b : (decide ((((i : Nat) : Int) : Int) < 2)) = false := hc6
    replace hc6 := of_decide_eq_false hc6
    obtain rfl : i = 2 := by omega
    refine JJ.exit rfl ?_
    refine JJ.inBlock ?_
    refine JJ.region rfl fun rg => ?_
    refine JJ.binI (z := ((j + 1 : Nat) : Int)) rg rfl rfl rfl rfl rfl (wrap_to (by omega) (by omega) (by omega)) ?_
    refine JJ.move rg rfl rfl rfl ?_
    refine JJ.regionEnd ?_
    refine JJ.keep _ ?_ (ih1 (j + 1, _, s2, bs2) ⟨hlt1, hle, hphi3, by rw [walk_take hd, all_pr]; exact hrun.append (.go hst12 hrun2)⟩ (by dsimp only; omega))
    repeat (first | exact trivial | refine ⟨rfl, ?_⟩)
 ·
  have hc2b : (decide ((((j : Nat) : Int) : Int) < ((ds.length : Nat) : Int))) = false := hc2
  replace hc2 := of_decide_eq_false hc2
  refine JJ.exit rfl ?_
  obtain rfl : j = ds.length := by omega
  rw [List.take_length] at hrun
  exact JJ.end0m rfl Try.func37 rfl (fun h q => ⟨(.tuple #[], s, true), ⟨hrun, hphi.now⟩, rfl, q⟩)
end Wf
end Go.Proofs.Ytlcdafeoionnhaa
