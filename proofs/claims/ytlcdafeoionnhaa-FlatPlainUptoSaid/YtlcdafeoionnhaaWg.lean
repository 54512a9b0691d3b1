/- Walks of functions, printed by a program of this session (wip/tool/eng.py). -/
import Derived.Test.YtlcdafeoionnhaaProg
import Derived.Test.YtlcdafeoionnhaaSize
import Derived.Test.YtlcdafeoionnhaaOwn
import Derived.Test.YtlcdafeoionnhaaWa
import Derived.Test.YtlcdafeoionnhaaWb
import Derived.Test.YtlcdafeoionnhaaWc
import Derived.Test.YtlcdafeoionnhaaWd
import Derived.Test.YtlcdafeoionnhaaWe
import Derived.Test.YtlcdafeoionnhaaWf
namespace Go.Proofs.Ytlcdafeoionnhaa
open Go
set_option linter.unusedVariables false
set_option linter.unusedSimpArgs false
namespace Wg
theorem bo17 : bodyOk Try.prog 17 = true := by kernel_rfl
theorem bo18 : bodyOk Try.prog 18 = true := by kernel_rfl
theorem bo19 : bodyOk Try.prog 19 = true := by kernel_rfl
theorem bo37 : bodyOk Try.prog 37 = true := by kernel_rfl
theorem eo23 : elemO Try.prog 23 = some (35, 7) := by kernel_rfl
theorem eo57 : elemO Try.prog 57 = some (23, 1) := by kernel_rfl
theorem io35 : infoO Try.prog 35 = some (.agg #[.int .i64 0, .string ⟨#[]⟩, .int .i64 0, .slice none 0 0, .slice none 0 0, .slice none 0 0, .bool false], 112) := by kernel_rfl
theorem mx : Try.prog.follows .mixedOrders = true := by kernel_rfl
theorem sl23 : sliceOfT Try.prog 23 = true := by kernel_rfl
theorem ss23 : isSliceT Try.prog 23 = true := by kernel_rfl
theorem ss57 : isSliceT Try.prog 57 = true := by kernel_rfl
theorem ty23 : tyI Try.prog 23 = some (false, 1) := by kernel_rfl
theorem ty26 : tyI Try.prog 26 = some (true, 4) := by kernel_rfl
theorem ty3 : tyI Try.prog 3 = some (false, 1) := by kernel_rfl
theorem ty35 : tyI Try.prog 35 = some (true, 7) := by kernel_rfl
theorem zo23 : zeroOf Try.prog 23 = some (.slice none 0 0) := by kernel_rfl
theorem zo3 : zeroOf Try.prog 3 = some (.int .i64 0) := by kernel_rfl
theorem zo35 : zeroOf Try.prog 35 = some (.agg #[.int .i64 0, .string ⟨#[]⟩, .int .i64 0, .slice none 0 0, .slice none 0 0, .slice none 0 0, .bool false]) := by kernel_rfl
open Wa Wb Wc Wd We Wf
theorem count_runs {l : List St} {n m : Int} {b : Bool} (h : Runs (fun (n : Int) (_ : St) (m : Int) (b : Bool) => m = IntKind.i64.wrap (n + 1) ∧ b = true) n l m b) (h0 : 0 ≤ n) (hl : n + l.length ≤ 4611686018427387904) : m = n + l.length ∧ b = true := by
  induction h with
  | nil => simp
  | stop a => cases a.2
  | go a _ ih =>
    obtain ⟨rfl, _⟩ := a
    simp only [List.length_cons] at hl ⊢
    rw [wrap_id (by omega) (by omega)] at ih
    obtain ⟨e1, e2⟩ := ih (by omega) (by omega)
    exact ⟨by omega, e2⟩
mutual
theorem all_len : ∀ (x : St), x.all.length ≤ x.sz
  | .mk op s n e b f c => by
    have h1 := alls_len b
    have h2 := alls_len f
    simp only [St.all, St.sz, List.length_cons, List.length_append]; omega
theorem alls_len : ∀ (l : List St), (St.alls l).length ≤ St.szl l
  | [] => by simp [St.alls]
  | a :: l => by
    have h1 := all_len a
    have h2 := alls_len l
    simp only [St.alls, St.szl, List.length_append]; omega
end
mutual
theorem all_sz : ∀ (x y : St), y ∈ x.all → y.sz ≤ x.sz
  | .mk op s n e b f c, y, h => by
    simp only [St.all, List.mem_cons, List.mem_append] at h
    rcases h with rfl | h | h
    · exact Nat.le_refl _
    · have := alls_sz b y h; simp only [St.sz]; omega
    · have := alls_sz f y h; simp only [St.sz]; omega
theorem alls_sz : ∀ (l : List St) (y : St), y ∈ St.alls l → y.sz ≤ St.szl l
  | [], y, h => by simp [St.alls] at h
  | a :: l, y, h => by
    simp only [St.alls, List.mem_append] at h
    rcases h with h | h
    · have := all_sz a y h; simp only [St.szl]; omega
    · have := alls_sz l y h; simp only [St.szl]; omega
end
theorem walk_iter (k : Nat) (I : Hp) (b : Nat) (A : Option Addr) (n cp : Nat) (ds : List St) (hx : RSs k I A n cp ds) (hb : Row I ⟨b, 0, none⟩ [.slice A n cp]) (hsz : St.szl ds ≤ 4294967296) :
    Iter Try.prog 37 (fun y => ([] ++ [y] ++ [Value.pointer (some ⟨b, 0, none⟩)]).toArray) I (ReS k) (St.alls ds) := walk1 _ k I b A n cp ds hx hb hsz (Nat.lt_succ_self _)
theorem Count (I : Hp) (k : Nat) (A : Option Addr) (n cp : Nat) (ds : List St) (hx : RSs k I A n cp ds) (hsz : St.szl ds ≤ 4294967296) : Fn Try.prog 22 #[.slice (A) (n) (cp)] I [] (RI (((St.alls ds).length : Int))) := by
 have hall := alls_len ds
 refine Fn.of (args := [_]) Try.func22 rfl rfl ?_
 refine JJ.seq ?_
 refine JJ.region rfl fun rg => ?_
 refine JJ.assign rg rfl rfl rfl ?_
 refine JJ.regionEnd ?_
 refine JJ.seq ?_
 refine JJ.region rfl fun rg => ?_
 refine JJ.alloc (cs := [.int .i64 0]) zo3 rfl rg rfl rfl fun b1 => ?_
 refine JJ.store (cs' := [.int .i64 0]) ty3 0 rg rfl rfl rfl rfl rfl rfl rfl rfl rfl rfl rfl ?_
 refine JJ.regionEnd ?_
 refine JJ.seq ?_
 refine JJ.seq ?_
 refine JJ.region rfl fun rg => ?_
 refine JJ.move rg rfl rfl rfl ?_
 refine JJ.callp bo18 rg rfl rfl rfl rfl (walk _ A n cp) fun bw I2 hle3 hbw => ?_
 replace hx := hx.mono hle3
 refine JJ.regionEnd ?_
 refine JJ.block ?_
 have hit := walk_iter k I2 bw A n cp ds hx hbw hsz
 refine JJ.marks0 ?_
 (try dsimp only [List.set])
 refine JJ.rangeFunc (Lr := []) (fun (_ : Int) _ => True) (fun (n : Int) _ => [blk b1 (Obj.cells [Value.int IntKind.i64 n].toArray 3)]) (fun n _ m b => m = IntKind.i64.wrap (n + 1) ∧ b = true) (fun _ => .skip) 0 rfl bo37 rfl rfl hit (fun _ _ _ h => by obtain ⟨_, rfl, _⟩ := h; rfl) (fun _ _ _ _ h => h) trivial (fun h q => Sat.rot (A := [mks []]) q) ?_ ?_
 ·
  intro l2 s4 I4 vs d4 hle4 hd4 hphi4 hre4
  obtain ⟨cs4, rfl, hre4⟩ := hre4
  replace hx := hx.mono hle4
  replace hbw := hbw.mono hle4
  refine JJ.skip ?_
  refine JJ.beginRound rfl ?_
  refine JJ.block ?_
  refine JJ.region rfl fun rg => ?_
  refine JJ.loadL (v := .int .i64 (s4)) ty3 1 rg rfl rfl rfl rfl rfl ?_
  refine JJ.binI (z := IntKind.i64.wrap (s4 + 1)) rg rfl rfl rfl rfl rfl rfl ?_
  refine JJ.store (cs' := [.int .i64 (IntKind.i64.wrap (s4 + 1))]) ty3 1 rg rfl rfl rfl rfl rfl rfl rfl rfl rfl rfl rfl ?_
  refine JJ.regionEnd ?_
  refine JJ.inBlock ?_
  (try dsimp only [List.set])
  exact JJ.roundEnd rfl (fun h q => ⟨_, true, rfl, ⟨rfl, rfl⟩, trivial, q⟩)
 ·
  intro bm I6 s3 z2 hle6 hz hphi6
  replace hx := hx.mono hle6
  replace hbw := hbw.mono hle6
  obtain ⟨rfl, rfl⟩ := count_runs hz (by omega) (by omega)
  rw [if_pos rfl, List.nil_append, List.append_nil]
  refine JJ.inBlock ?_
  refine JJ.seq ?_
  refine JJ.region rfl fun rg => ?_
  refine JJ.loadL (v := .int .i64 (0 + ((St.alls ds).length : Int))) ty3 1 rg rfl rfl rfl rfl rfl ?_
  refine JJ.assign rg rfl rfl rfl ?_
  refine JJ.regionEnd ?_
  rw [Int.zero_add]
  exact JJ.ret1m rfl Try.func22 rfl rfl (fun h q => ⟨(), trivial, rfl, trivial⟩)
def RSq (k : Nat) (I : Hp) (css : List (List Value)) (ds : List St) : Prop := All2 (fun cs d => cs.length = 7 ∧ RS k I cs d) css ds
theorem RSq.mono {k : Nat} {I I' : Hp} {css : List (List Value)} {ds : List St} (h : RSq k I css ds) (l : I.le I') : RSq k I' css ds := All2.up (RS k) (fun _ _ => RS.mono l) h -- (fun _ _ => RS.mono l)
theorem RSq.snoc {k : Nat} {I : Hp} {css : List (List Value)} {ds : List St} {cs : List Value} {d : St} (h : RSq k I css ds) (h1 : cs.length = 7) (h2 : RS k I cs d) : RSq k I (css ++ [cs]) (ds ++ [d]) := All2.append h (.cons ⟨h1, h2⟩ .nil)
theorem RSq.length {k : Nat} {I : Hp} {css : List (List Value)} {ds : List St} (h : RSq k I css ds) : css.length = ds.length := All2.length h
abbrev AllS := Option Addr × Nat × List (List Value) × List St
def allSt (s : AllS) (d : St) (s' : AllS) (b : Bool) : Prop := s'.2.2.2 = s.2.2.2 ++ [d] ∧ b = true
theorem all_runs {l : List St} {s s' : AllS} {b : Bool} (h : Runs allSt s l s' b) : s'.2.2.2 = s.2.2.2 ++ l ∧ b = true := by
  induction h with
  | nil => simp
  | stop a => cases a.2
  | go a _ ih => exact ⟨by rw [ih.1, a.1]; simp, ih.2⟩
theorem parts_len (x : Pg) : x.alls.length ≤ x.sz := by
  have key : ∀ l : List Pc, ((l.map (·.body)).map St.alls).flatten.length ≤ Pc.szl l := by
    intro l
    induction l with
    | nil => simp
    | cons a l ih =>
      have h1 := alls_len a.body
      have h2 : a.sz = St.szl a.body + 1 := rfl
      simp only [List.map_cons, List.flatten_cons, List.length_append, Pc.szl]; omega
  have h1 := key x.procs
  have h2 := alls_len x.main
  have h3 := alls_len x.recover
  have h4 : x.sz = Pc.szl x.procs + St.szl x.main + St.szl x.recover + Oc.szl x.oracles := rfl
  unfold Pg.alls Pg.parts
  rw [List.map_append, List.flatten_append, List.length_append]
  simp only [List.map_cons, List.map_nil, List.flatten_cons, List.flatten_nil, List.append_nil, List.length_append]
  omega
theorem parts_szl {x : Pg} {y : List St} (h : y ∈ x.parts) : St.szl y ≤ x.sz := by
  have h4 : x.sz = Pc.szl x.procs + St.szl x.main + St.szl x.recover + Oc.szl x.oracles := rfl
  unfold Pg.parts at h
  rcases List.mem_append.1 h with h | h
  · obtain ⟨a, ha, rfl⟩ := List.mem_map.1 h
    have h1 := Pc.szl_mem ha
    have h2 : a.sz = St.szl a.body + 1 := rfl
    omega
  · simp only [List.mem_cons, List.not_mem_nil, or_false] at h
    rcases h with rfl | rfl <;> omega
theorem parts_at {ds : List (List St)} {j : Nat} {d : List St} (hd : ds[j]? = some d) : (ds.map St.alls).flatten = ((ds.take j).map St.alls).flatten ++ (St.alls d ++ ((ds.drop (j + 1)).map St.alls).flatten) := pr_at hd
theorem all2_flat_len {k : Nat} {I : Hp} {css : List (List Value)} {ds : List St} (h : RSq k I css ds) : css.flatten.length = css.length * 7 := by
  refine flatten_length css fun x hx => ?_
  obtain ⟨i, hi, rfl⟩ := List.getElem_of_mem hx
  have hl := h.length
  obtain ⟨a, ha, hp⟩ := All2.get h (i := i) (b := ds[i]'(by omega)) (List.getElem?_eq_getElem _)
  rw [List.getElem?_eq_getElem hi] at ha
  cases ha
  exact hp.1
theorem put_last {F Z vs : List Value} {off : Nat} (h : F.length = off) (hz : Z.length = vs.length) : (F ++ Z).take off ++ vs ++ (F ++ Z).drop (off + vs.length) = F ++ vs := by
  subst h
  rw [List.take_left, List.drop_of_length_le (by rw [List.length_append]; omega), List.append_nil]
theorem All (k : Nat) (I : Hp) (cs : List Value) (x : Pg) (hre : RPg k I cs x) (hsz : x.sz ≤ 4294967296) : Fn Try.prog 8 #[.agg cs.toArray] I [] (Ret (X := Option Addr × Nat) (fun p I' => RSs k I' p.1 x.alls.length p.2 x.alls) (fun p => .slice p.1 x.alls.length p.2) fun _ => []) := by
 have hre0 := hre
 obtain ⟨A, m, cp, A1, m1, cp1, A2, m2, cp2, A3, m3, cp3, rfl, hx, hx1, hx2, hx3⟩ := hre
 have hall0 := parts_len x
 have h4 : x.sz = Pc.szl x.procs + St.szl x.main + St.szl x.recover + Oc.szl x.oracles := rfl
 have hpl0 := Pc.szl_len x.procs
 have hpl : x.parts.length = x.procs.length + 2 := by simp [Pg.parts]
 refine Fn.of (args := [_]) Try.func8 rfl rfl ?_
 refine JJ.seq ?_
 refine JJ.region rfl fun rg => ?_
 refine JJ.box (cs := [.slice (A) (m) (cp), .slice (A1) (m1) (cp1), .slice (A2) (m2) (cp2), .slice (A3) (m3) (cp3)]) rg rfl rfl rfl rfl fun b1 => ?_
 refine JJ.assign rg rfl rfl rfl ?_
 refine JJ.regionEnd ?_
 refine JJ.seq ?_
 refine JJ.region rfl fun rg => ?_
 refine JJ.alloc (cs := [.slice (none) (0) (0)]) zo23 rfl rg rfl rfl fun b2 => ?_
 refine JJ.regionEnd ?_
 refine JJ.seq ?_
 refine JJ.seq ?_
 refine JJ.region rfl fun rg => ?_
 refine JJ.loadL (v := .agg #[.slice (A) (m) (cp), .slice (A1) (m1) (cp1), .slice (A2) (m2) (cp2), .slice (A3) (m3) (cp3)]) ty26 1 rg rfl rfl rfl rfl rfl ?_
 refine JJ.callp bo17 rg rfl rfl rfl rfl (parts k _ _ x hre0 hsz) fun pp I3 hle4 hpp => ?_
 replace hre0 := hre0.mono hle4
 refine JJ.lenSlice ss57 rg rfl rfl rfl ?_
 refine JJ.move rg rfl rfl rfl ?_
 refine JJ.regionEnd ?_
 refine JJ.block ?_
 refine JJ.pull 1 rfl rfl ?_
 refine JJ.drop ?_
 refine JJ.ownNil 35 7 ?_
 refine JJ.pull 1 rfl rfl ?_
 refine JJ.marks0 ?_
 refine JJ.inductD (X := Nat × Hp × Option Addr × Nat × List (List Value) × List Nat) (fun z => [(3, .pointer (some ⟨b2, 0, none⟩)), (8, .slice pp.1 x.parts.length pp.2), (9, .int .i64 x.parts.length), (10, .int .i64 z.1)]) (fun z => marks z.2.2.2.2.2) (fun z => z.2.1) (fun z => [mks z.2.2.2.2.2, blk b2 (.cells [Value.slice z.2.2.1 z.2.2.2.2.1.length z.2.2.2.1].toArray 23), own 35 7 z.2.2.1 z.2.2.2.2.1.length z.2.2.2.1 z.2.2.2.2.1.flatten])
  (fun z => z.1 ≤ x.parts.length ∧ Hp.le I3 z.2.1 ∧ RSq k z.2.1 z.2.2.2.2.1 ((x.parts.take z.1).map St.alls).flatten) (fun z => x.parts.length - z.1) (0, I3, none, 0, [], []) ⟨Nat.zero_le _, .refl _, by simp; exact .nil⟩ (fun h => JJ.keep _ (by repeat (first | exact trivial | refine ⟨rfl, ?_⟩)) h) ?_
 rintro ⟨i, I1, B1, c1, css, bs⟩ ⟨hi, hle, hall⟩ ih1
 dsimp only at hi hle hall ih1 ⊢
 replace hre0 := hre0.mono hle
 replace hpp := hpp.mono hle
 refine JJ.seq ?_
 refine JJ.region rfl fun rg => ?_
 refine JJ.bin rg rfl rfl rfl rfl rfl ?_
 refine JJ.regionEnd ?_
 refine JJ.seq ?_
 refine JJ.cond2 rfl (fun hc3 => ?_) (fun hc3 => ?_)
 ·
  have hc3b : (decide ((((i : Nat) : Int) : Int) < ((x.parts.length : Nat) : Int))) = true := hc3
  replace hc3 := of_decide_eq_true hc3
  have hlt1 : i < x.parts.length := by omega
  obtain ⟨y, hy⟩ : ∃ y, x.parts[i]? = some y := ⟨_, List.getElem?_eq_getElem hlt1⟩
  have hyz := parts_szl (List.mem_of_getElem? hy)
  have hal : x.alls = ((x.parts.take i).map St.alls).flatten ++ (St.alls y ++ ((x.parts.drop (i + 1)).map St.alls).flatten) := parts_at hy
  refine JJ.skip ?_
  refine JJ.seq ?_
  refine JJ.block ?_
  refine JJ.seq ?_
  refine JJ.region rfl fun rg => ?_
  obtain ⟨a, cs, hA, hcap, hcl, hre, hrow⟩ := RSl.get hpp hy
  obtain ⟨B0, n0, q0, rfl, hz0⟩ := hre
  obtain ⟨pA, pc⟩ := pp
  dsimp only at *
  subst hA
  refine JJ.indexAddr (a' := a.add (i * 1)) eo57 rg rfl rfl rfl rfl (by omega) (by omega) rfl ?_
  refine JJ.loadI (v := .slice (B0) (n0) (q0)) ty23 rg rfl rfl rfl hrow rfl ?_
  refine JJ.assign rg rfl rfl rfl ?_
  refine JJ.regionEnd ?_
  refine JJ.seq ?_
  refine JJ.region rfl fun rg => ?_
  refine JJ.move rg rfl rfl rfl ?_
  refine JJ.callp bo18 rg rfl rfl rfl rfl (walk _ B0 n0 q0) fun bw I5 hle6 hbw => ?_
  replace hre0 := hre0.mono hle6
  replace hpp := hpp.mono hle6
  replace hall := hall.mono hle6
  replace hz0 := hz0.mono hle6
  replace hle := hle.trans hle6
  refine JJ.regionEnd ?_
  refine JJ.block ?_
  have hit := walk_iter k I5 bw B0 n0 q0 y hz0 hbw (by omega)
  refine JJ.rangeFunc (Lr := []) (fun (s : AllS) I => RSq k I s.2.2.1 s.2.2.2) (fun (s : AllS) _ => [blk b2 (Obj.cells [Value.slice s.1 s.2.2.1.length s.2.1].toArray 23), own 35 7 s.1 s.2.2.1.length s.2.1 s.2.2.1.flatten]) allSt (fun _ => .skip) (B1, c1, css, ((x.parts.take i).map St.alls).flatten) rfl bo37 rfl rfl hit (fun _ _ _ h => by obtain ⟨_, rfl, _⟩ := h; rfl) (fun _ _ _ l h => RSq.mono h l) hall (fun h q => Sat.rot (A := [_]) q) ?_ ?_
  ·
   rintro l2 ⟨B4, c4, css, dn⟩ I4 vs d4 hle4 ⟨pre4, post4, he4, hr4⟩ hphi4 hre4
   obtain ⟨cs4, rfl, hre4⟩ := hre4
   dsimp only at hr4 hphi4 ⊢
   have hdn := (all_runs hr4).1
   dsimp only at hdn
   have hcl4 : css.length < 4294967296 := by have h1 := hphi4.length; have h2 := congrArg List.length hal; rw [he4] at h2; have h3 := congrArg List.length hdn; simp only [List.length_append, List.length_cons] at h2 h3; omega
   have hd4z : d4.sz ≤ 4294967296 := by have := alls_sz y d4 (by rw [he4]; simp); omega
   replace hre0 := hre0.mono hle4
   replace hpp := hpp.mono hle4
   replace hall := hall.mono hle4
   replace hz0 := hz0.mono hle4
   replace hbw := hbw.mono hle4
   replace hle := hle.trans hle4
   refine JJ.region rfl fun rg => ?_
   refine JJ.alloc (cs := [.int .i64 0, .string (⟨#[]⟩), .int .i64 0, .slice (none) (0) (0), .slice (none) (0) (0), .slice (none) (0) (0), .bool false]) zo35 rfl rg rfl rfl fun b7 => ?_
   refine JJ.store (cs' := cs4) ty35 0 rg rfl rfl rfl rfl rfl rfl (by simp [hre4.len]) (by simpa using hre4.one) (by simp [hre4.len]) (stC_all (by simp [hre4.len])) rfl ?_
   refine JJ.regionEnd ?_
   refine JJ.pull 1 rfl rfl ?_
   refine JJ.beginRound rfl ?_
   refine JJ.block ?_
   refine JJ.drawT (m := 5) [[5, 6, 7, 8], [5, 6, 8, 7], [5, 8, 6, 7]] [(3, .pointer (some ⟨b2, 0, none⟩)), (6, .pointer (some ⟨b7, 0, none⟩))]
    (fun i => match i with | 0 => fun _ v => v = .slice (B4) (css.length) (c4) | 1 => fun _ v => v = .agg (cs4).toArray | 2 => fun I v => ∃ p : List Value, v = .agg p.toArray ∧ RS k I p d4 | 3 => fun _ v => v = .int .i64 (((css.length : Nat) : Int)) | 4 => fun I v => ∃ p : Nat, v = .slice (some ⟨p, 0, none⟩) 1 1 ∧ Row I ⟨p, 0, none⟩ [.int .i64 0, .string (⟨#[]⟩), .int .i64 0, .slice (none) (0) (0), .slice (none) (0) (0), .slice (none) (0) (0), .bool false] | _ => fun _ _ => False) mx rfl rfl (by kernel_rfl) ?_ (by repeat (first | exact trivial | refine ⟨rfl, ?_⟩)) (fun rg => ?_) (fun rg => ?_)
   ·
    rintro (_ | _ | _ | _ | _ | i) I1_ I2_ v l h
    · exact h
    · exact h
    · obtain ⟨p, h1, h0⟩ := h; exact ⟨p, h1, RS.mono l h0⟩
    · exact h
    · obtain ⟨p, h1, h0⟩ := h; exact ⟨p, h1, Row.mono h0 l⟩
    · exact h
   ·
    refine ⟨?_, ?_, ?_, ?_, ?_, trivial⟩
    ·
     intro is E2 I2_ hle_ hb hd kk_
     obtain ⟨hb3, hb6, -⟩ := hb
     replace hre0 := hre0.mono hle_
     replace hpp := hpp.mono hle_
     replace hall := hall.mono hle_
     replace hz0 := hz0.mono hle_
     replace hbw := hbw.mono hle_
     replace hre4 := hre4.mono hle_
     replace hphi4 := hphi4.mono hle_
     replace hle := hle.trans hle_
     refine JJ.loadL (v := .slice (B4) (css.length) (c4)) ty23 2 rg rfl rfl hb3 rfl rfl (kk_ _ _ (.refl _) rfl)
    ·
     intro is E2 I2_ hle_ hb hd kk_
     obtain ⟨hb3, hb6, -⟩ := hb
     replace hre0 := hre0.mono hle_
     replace hpp := hpp.mono hle_
     replace hall := hall.mono hle_
     replace hz0 := hz0.mono hle_
     replace hbw := hbw.mono hle_
     replace hre4 := hre4.mono hle_
     replace hphi4 := hphi4.mono hle_
     replace hle := hle.trans hle_
     refine JJ.loadL (v := .agg (cs4).toArray) ty35 1 rg rfl rfl hb6 rfl (ldV_all hre4.len) (kk_ _ _ (.refl _) rfl)
    ·
     intro is E2 I2_ hle_ hb hd kk_
     obtain ⟨hb3, hb6, -⟩ := hb
     obtain ⟨d1, v1, e1, g1, s1⟩ := hd 1 (by decide)
     cases e1
     subst s1
     replace hre0 := hre0.mono hle_
     replace hpp := hpp.mono hle_
     replace hall := hall.mono hle_
     replace hz0 := hz0.mono hle_
     replace hbw := hbw.mono hle_
     replace hre4 := hre4.mono hle_
     replace hphi4 := hphi4.mono hle_
     replace hle := hle.trans hle_
     refine JJ.callp bo19 rg rfl rfl rfl (evL_cons g1 rfl) (cloned k _ cs4 d4 hre4 hd4z) fun cs5 I8 hle9 hre5 => (kk_ _ _ hle9 ⟨cs5, rfl, hre5⟩)
    ·
     intro is E2 I2_ hle_ hb hd kk_
     obtain ⟨hb3, hb6, -⟩ := hb
     obtain ⟨d0, v0, e0, g0, s0⟩ := hd 0 (by decide)
     cases e0
     subst s0
     replace hre0 := hre0.mono hle_
     replace hpp := hpp.mono hle_
     replace hall := hall.mono hle_
     replace hz0 := hz0.mono hle_
     replace hbw := hbw.mono hle_
     replace hre4 := hre4.mono hle_
     replace hphi4 := hphi4.mono hle_
     replace hle := hle.trans hle_
     refine JJ.lenSlice ss23 rg rfl rfl g0 (kk_ _ _ (.refl _) rfl)
    ·
     intro is E2 I2_ hle_ hb hd kk_
     obtain ⟨hb3, hb6, -⟩ := hb
     replace hre0 := hre0.mono hle_
     replace hpp := hpp.mono hle_
     replace hall := hall.mono hle_
     replace hz0 := hz0.mono hle_
     replace hbw := hbw.mono hle_
     replace hre4 := hre4.mono hle_
     replace hphi4 := hphi4.mono hle_
     replace hle := hle.trans hle_
     refine JJ.buildSlice (cs := [.int .i64 0, .string (⟨#[]⟩), .int .i64 0, .slice (none) (0) (0), .slice (none) (0) (0), .slice (none) (0) (0), .bool false]) eo23 zo35 rg rfl rfl rfl rfl rfl rfl rfl fun b10 => ?_
     refine JJ.share fun I3_ le3_ hb3_ => kk_ _ _ le3_ ⟨b10, rfl, Row.of hb3_ 0⟩
   intro vs I14 hle13 hs_ ord ho
   obtain ⟨hv0, hv1, hv2, hv3, hv4, -⟩ := hs_
   replace hre0 := hre0.mono hle13
   replace hpp := hpp.mono hle13
   replace hall := hall.mono hle13
   replace hz0 := hz0.mono hle13
   replace hbw := hbw.mono hle13
   replace hre4 := hre4.mono hle13
   replace hphi4 := hphi4.mono hle13
   replace hle := hle.trans hle13
   obtain ⟨cs5, hv2, hre5⟩ := hv2
   obtain ⟨b11, hv4, hrow12⟩ := hv4
   refine JJ.keep [(3, .pointer (some ⟨b2, 0, none⟩)), (6, .pointer (some ⟨b7, 0, none⟩)), (17, .slice (B4) (css.length) (c4)), (18, .agg (cs4).toArray), (19, .agg (cs5).toArray), (20, .int .i64 (((css.length : Nat) : Int))), (21, .slice (some ⟨b11, 0, none⟩) (1) (1))] ⟨rfl, rfl, congrArg some hv0, congrArg some hv1, congrArg some hv2, congrArg some hv3, congrArg some hv4, trivial⟩ ?_
   simp only [List.mem_cons, List.not_mem_nil, or_false] at ho
   rcases ho with rfl | rfl | rfl
   ·
    refine JJ.append eo23 io35 rfl 3 rg rfl rfl rfl rfl rfl (SrcOk.ofRow (news := [.int .i64 0, .string (⟨#[]⟩), .int .i64 0, .slice (none) (0) (0), .slice (none) (0) (0), .slice (none) (0) (0), .bool false]) sl23 hrow12 rfl (by simp [Value.oneCell'])) (by omega) fun A15 c16 => ?_
    dsimp only [List.set]
    refine JJ.pull 3 rfl rfl ?_
    refine JJ.ownSome (by omega) fun gg hA2 hcap2 hol => ?_
    subst hA2
    refine JJ.indexAddr (a' := ⟨gg, css.length * 7, none⟩) eo23 rg rfl rfl rfl rfl (by omega) (by omega) (by rw [Addr.add_lit]; simp) ?_
    have hfl := all2_flat_len hphi4
    refine JJ.storeOwn (vs := cs5) ty35 0 rg rfl rfl rfl rfl rfl rfl hre5.len hre5.one (by rw [hol, hre5.len]; omega) ?_
    dsimp only [List.set]
    rw [put_last hfl (by rw [hre5.len]; rfl)]
    refine JJ.store (cs' := [.slice (some ⟨gg, 0, none⟩) (css.length + 1) (c16)]) ty23 3 rg rfl rfl rfl rfl rfl rfl rfl rfl rfl rfl rfl ?_
    refine JJ.regionEnd ?_
    refine JJ.inBlock ?_
    refine JJ.pull 1 rfl rfl ?_
    refine JJ.pull 2 rfl rfl ?_
    refine JJ.drop ?_
    refine JJ.pull 1 rfl rfl ?_
    refine JJ.pull 2 rfl rfl ?_
    refine JJ.pull 2 rfl rfl ?_
    rw [show css.flatten ++ cs5 = (css ++ [cs5]).flatten from by simp, show css.length + 1 = (css ++ [cs5]).length from by simp]
    exact JJ.roundEnd rfl (fun h q => ⟨(some ⟨gg, 0, none⟩, c16, css ++ [cs5], dn ++ [d4]), true, rfl, ⟨rfl, rfl⟩, hphi4.snoc hre5.len hre5, q⟩)
   ·
    refine JJ.append eo23 io35 rfl 3 rg rfl rfl rfl rfl rfl (SrcOk.ofRow (news := [.int .i64 0, .string (⟨#[]⟩), .int .i64 0, .slice (none) (0) (0), .slice (none) (0) (0), .slice (none) (0) (0), .bool false]) sl23 hrow12 rfl (by simp [Value.oneCell'])) (by omega) fun A17 c18 => ?_
    dsimp only [List.set]
    refine JJ.pull 3 rfl rfl ?_
    refine JJ.ownSome (by omega) fun gg hA2 hcap2 hol => ?_
    subst hA2
    refine JJ.indexAddr (a' := ⟨gg, css.length * 7, none⟩) eo23 rg rfl rfl rfl rfl (by omega) (by omega) (by rw [Addr.add_lit]; simp) ?_
    refine JJ.store (cs' := [.slice (some ⟨gg, 0, none⟩) (css.length + 1) (c18)]) ty23 3 rg rfl rfl rfl rfl rfl rfl rfl rfl rfl rfl rfl ?_
    have hfl := all2_flat_len hphi4
    refine JJ.storeOwn (vs := cs5) ty35 0 rg rfl rfl rfl rfl rfl rfl hre5.len hre5.one (by rw [hol, hre5.len]; omega) ?_
    dsimp only [List.set]
    rw [put_last hfl (by rw [hre5.len]; rfl)]
    refine JJ.regionEnd ?_
    refine JJ.inBlock ?_
    refine JJ.pull 1 rfl rfl ?_
    refine JJ.pull 2 rfl rfl ?_
    refine JJ.drop ?_
    refine JJ.pull 1 rfl rfl ?_
    refine JJ.pull 2 rfl rfl ?_
    refine JJ.pull 2 rfl rfl ?_
    rw [show css.flatten ++ cs5 = (css ++ [cs5]).flatten from by simp, show css.length + 1 = (css ++ [cs5]).length from by simp]
    exact JJ.roundEnd rfl (fun h q => ⟨(some ⟨gg, 0, none⟩, c18, css ++ [cs5], dn ++ [d4]), true, rfl, ⟨rfl, rfl⟩, hphi4.snoc hre5.len hre5, q⟩)
   ·
    refine JJ.append eo23 io35 rfl 3 rg rfl rfl rfl rfl rfl (SrcOk.ofRow (news := [.int .i64 0, .string (⟨#[]⟩), .int .i64 0, .slice (none) (0) (0), .slice (none) (0) (0), .slice (none) (0) (0), .bool false]) sl23 hrow12 rfl (by simp [Value.oneCell'])) (by omega) fun A19 c20 => ?_
    dsimp only [List.set]
    refine JJ.store (cs' := [.slice (A19) (css.length + 1) (c20)]) ty23 2 rg rfl rfl rfl rfl rfl rfl rfl rfl rfl rfl rfl ?_
    refine JJ.pull 3 rfl rfl ?_
    refine JJ.ownSome (by omega) fun gg hA2 hcap2 hol => ?_
    subst hA2
    refine JJ.indexAddr (a' := ⟨gg, css.length * 7, none⟩) eo23 rg rfl rfl rfl rfl (by omega) (by omega) (by rw [Addr.add_lit]; simp) ?_
    have hfl := all2_flat_len hphi4
    refine JJ.storeOwn (vs := cs5) ty35 0 rg rfl rfl rfl rfl rfl rfl hre5.len hre5.one (by rw [hol, hre5.len]; omega) ?_
    dsimp only [List.set]
    rw [put_last hfl (by rw [hre5.len]; rfl)]
    refine JJ.regionEnd ?_
    refine JJ.inBlock ?_
    refine JJ.pull 1 rfl rfl ?_
    refine JJ.pull 2 rfl rfl ?_
    refine JJ.drop ?_
    refine JJ.pull 1 rfl rfl ?_
    refine JJ.pull 2 rfl rfl ?_
    refine JJ.pull 2 rfl rfl ?_
    rw [show css.flatten ++ cs5 = (css ++ [cs5]).flatten from by simp, show css.length + 1 = (css ++ [cs5]).length from by simp]
    exact JJ.roundEnd rfl (fun h q => ⟨(some ⟨gg, 0, none⟩, c20, css ++ [cs5], dn ++ [d4]), true, rfl, ⟨rfl, rfl⟩, hphi4.snoc hre5.len hre5, q⟩)
  ·
   rintro bm I6 ⟨B3, c3, css3, dn3⟩ z2 hle6 hz hphi6
   replace hre0 := hre0.mono hle6
   replace hpp := hpp.mono hle6
   replace hall := hall.mono hle6
   replace hz0 := hz0.mono hle6
   replace hbw := hbw.mono hle6
   replace hle := hle.trans hle6
   obtain ⟨hdn3, rfl⟩ := all_runs hz
   dsimp only at hdn3 hphi6 ⊢
   subst hdn3
   rw [if_pos rfl, List.nil_append, List.append_nil]
   refine JJ.inBlock ?_
   refine JJ.inBlock ?_
   refine JJ.region rfl fun rg => ?_
   refine JJ.binI (z := ((i + 1 : Nat) : Int)) rg rfl rfl rfl rfl rfl (wrap_to (by omega) (by omega) (by omega)) ?_
   refine JJ.move rg rfl rfl rfl ?_
   refine JJ.regionEnd ?_
   refine JJ.pull 2 rfl rfl ?_
   refine JJ.pull 2 rfl rfl ?_
   refine JJ.pull 2 rfl rfl ?_
   refine JJ.keep _ ?_ (ih1 (i + 1, _, B3, c3, css3, bm :: bs) ⟨hlt1, hle, by rw [pr_take hy]; exact hphi6⟩ (by dsimp only; omega))
   repeat (first | exact trivial | refine ⟨rfl, ?_⟩)
 ·
  have hc3b : (decide ((((i : Nat) : Int) : Int) < ((x.parts.length : Nat) : Int))) = false := hc3
  replace hc3 := of_decide_eq_false hc3
  obtain rfl : i = x.parts.length := by omega
  rw [List.take_length] at hall
  refine JJ.exit rfl ?_
  refine JJ.seq ?_
  refine JJ.region rfl fun rg => ?_
  refine JJ.loadL (v := .slice (B1) (css.length) (c1)) ty23 1 rg rfl rfl rfl rfl rfl ?_
  refine JJ.assign rg rfl rfl rfl ?_
  refine JJ.regionEnd ?_
  refine JJ.pull 2 rfl rfl ?_
  refine JJ.shareOwn fun I9 hle9 hs => ?_
  have hcl : css.length = x.alls.length := hall.length
  rw [hcl]
  exact JJ.ret1m rfl Try.func8 rfl rfl (fun h q => ⟨(B1, c1), RSl.of (hcl ▸ hs) rfl (hall.mono hle9), rfl, trivial⟩)
end Wg
end Go.Proofs.Ytlcdafeoionnhaa
