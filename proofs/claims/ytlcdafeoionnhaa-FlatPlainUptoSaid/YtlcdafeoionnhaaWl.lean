/- Walks of functions, printed by a program of this session (wip/tool/eng.py). -/
import Derived.Test.YtlcdafeoionnhaaProg
import Derived.Test.YtlcdafeoionnhaaAuto
import Derived.Test.YtlcdafeoionnhaaWb
import Derived.Test.YtlcdafeoionnhaaWc
import Derived.Test.YtlcdafeoionnhaaWi
import Derived.Test.YtlcdafeoionnhaaWj
import Derived.Test.YtlcdafeoionnhaaWk
namespace Go.Proofs.Ytlcdafeoionnhaa
open Go
set_option linter.unusedVariables false
set_option linter.unusedSimpArgs false
namespace Wl
theorem bo40 : bodyOk Try.prog 40 = true := by kernel_rfl
theorem bo41 : bodyOk Try.prog 41 = true := by kernel_rfl
theorem bo55 : bodyOk Try.prog 55 = true := by kernel_rfl
theorem bo56 : bodyOk Try.prog 56 = true := by kernel_rfl
theorem eo23 : elemO Try.prog 23 = some (35, 7) := by kernel_rfl
theorem eo87 : elemO Try.prog 87 = some (85, 1) := by kernel_rfl
theorem fo35_0 : fieldO Try.prog 35 0 = some 0 := by kernel_rfl
theorem fo35_1 : fieldO Try.prog 35 1 = some 1 := by kernel_rfl
theorem fo35_4 : fieldO Try.prog 35 4 = some 4 := by kernel_rfl
theorem fo35_5 : fieldO Try.prog 35 5 = some 5 := by kernel_rfl
theorem fo89_0 : fieldO Try.prog 89 0 = some 0 := by kernel_rfl
theorem fo89_1 : fieldO Try.prog 89 1 = some 1 := by kernel_rfl
theorem fo89_2 : fieldO Try.prog 89 2 = some 2 := by kernel_rfl
theorem io85 : infoO Try.prog 85 = some (.map none, 8) := by kernel_rfl
theorem mx : Try.prog.follows .mixedOrders = true := by kernel_rfl
theorem sl87 : sliceOfT Try.prog 87 = true := by kernel_rfl
theorem sm85 : smapT Try.prog 85 = some 3 := by kernel_rfl
theorem ss23 : isSliceT Try.prog 23 = true := by kernel_rfl
theorem ss87 : isSliceT Try.prog 87 = true := by kernel_rfl
theorem ty23 : tyI Try.prog 23 = some (false, 1) := by kernel_rfl
theorem ty3 : tyI Try.prog 3 = some (false, 1) := by kernel_rfl
theorem ty35 : tyI Try.prog 35 = some (true, 7) := by kernel_rfl
theorem ty85 : tyI Try.prog 85 = some (false, 1) := by kernel_rfl
theorem ty87 : tyI Try.prog 87 = some (false, 1) := by kernel_rfl
theorem ty9 : tyI Try.prog 9 = some (false, 1) := by kernel_rfl
theorem zo3 : zeroOf Try.prog 3 = some (.int .i64 0) := by kernel_rfl
theorem zo35 : zeroOf Try.prog 35 = some (.agg #[.int .i64 0, .string ⟨#[]⟩, .int .i64 0, .slice none 0 0, .slice none 0 0, .slice none 0 0, .bool false]) := by kernel_rfl
theorem zo85 : zeroOf Try.prog 85 = some (.map none) := by kernel_rfl
open Wb Wc Wi Wj Wk
theorem ckR.close {b n cp pb : Nat} {A : Option Addr} {sc : List IMap} {pr : IMap} {at1 f1 f2 : Int} {L : List HP} {h : Hp} (hn : n = sc.length)
    (s : Sat (blk b (.cells [Value.slice A n cp, .map (some pb), .int .i64 at1, .int .i64 f1, .int .i64 f2].toArray 89) :: scp 85 A sc.length cp sc :: mapR pb pr.toS :: L) h) : Sat (ckR b ⟨sc, pr, at1, (f1, f2)⟩ :: L) h := by
  subst hn
  exact Sat.close (A, cp, pb) s
def zs (bs : List Nat) (sc : List IMap) : HP := fun h => Sat (zipM bs sc) h
theorem JJ.scpOpen {c : Cx} {K : List Item} {E : List (Nat × Value)} {D : List Deferred} {I : Hp} {L : List HP} {e : TypeId} {A : Option Addr} {n cp : Nat} {sc : List IMap}
    (h : ∀ bs : List Nat, bs.length = sc.length → JJ c K E D I (own e 1 A n cp (bs.map fun b => Value.map (some b)) :: zs bs sc :: L)) : JJ c K E D I (scp e A n cp sc :: L) := by
  refine JJ.exOpen fun bs => ?_
  refine JJ.pure fun hbs => ?_
  refine JJ.res (fun h (q : Sat (own e 1 A n cp (bs.map fun b => Value.map (some b)) :: (zipM bs sc ++ L)) h) => ?_) (h bs hbs.1)
  obtain ⟨h1, h2, a, b, c, d, e⟩ := q
  obtain ⟨h3, h4, a', b', c', d', e'⟩ := e.split
  exact ⟨h1, h2, a, b, c, d, h3, h4, a', b', c', d', e'⟩
theorem scp_push' {e : TypeId} {A : Option Addr} {n cp nb : Nat} {sc : List IMap} {bs : List Nat} {L : List HP} {h : Hp} (hbs : bs.length = sc.length) (hn : n = sc.length)
    (s : Sat (own e 1 A (n + 1) cp ((bs.map fun b => Value.map (some b)) ++ [.map (some nb)]) :: zs bs sc :: mapR nb (IMap.toS []) :: L) h) : Sat (scp e A (sc ++ [[]]).length cp (sc ++ [[]]) :: L) h := by
  refine scp_push (nb := nb) hbs hn ?_
  obtain ⟨h1, h2, a, b, c, d, h3, h4, a', b', c', d', e'⟩ := s
  exact ⟨h1, h2, a, b, c, d, Sat.join a' b' c' d' e'⟩
theorem JJ.scpSome {c : Cx} {K : List Item} {E : List (Nat × Value)} {D : List Deferred} {I : Hp} {L : List HP} {e : TypeId} {A : Option Addr} {n cp : Nat} {sc : List IMap} (h0 : 0 < n)
    (h : ∀ g, A = some ⟨g, 0, none⟩ → n ≤ cp → JJ c K E D I (scp e A n cp sc :: L)) : JJ c K E D I (scp e A n cp sc :: L) := by
  refine fun a w hh k hE hS hR => ?_
  obtain ⟨h1, h2, _, _, _, ⟨bs, _, h4, _, _, _, _, h5, _, _, _, _, ⟨_, ho⟩, _⟩, _⟩ := id hS
  rcases ho with ⟨_, rfl, _⟩ | ⟨g, cur, rfl, _, hn, _⟩
  · omega
  · exact h g rfl hn a w hh k hE hS hR
theorem own_cut {e : TypeId} {sz n m cp g : Nat} {xs : List Value} {L : List HP} {h : Hp} (hm : m ≤ n) (s : Sat (own e sz (some ⟨g, 0, none⟩) n cp xs :: L) h) : Sat (own e sz (some ⟨g, 0, none⟩) m cp (xs.take (m * sz)) :: L) h := by
  obtain ⟨h1, h2, a, b, c, ⟨hl, ho⟩, f⟩ := s
  rcases ho with ⟨hA, _⟩ | ⟨g', cur, hA, hb, hn, hs, htk⟩
  · cases hA
  · refine ⟨h1, h2, a, b, c, ⟨?_, .inr ⟨g', cur, hA, hb, by omega, hs, ?_⟩⟩, f⟩
    · rw [List.length_take, hl]; exact Nat.min_eq_left (Nat.mul_le_mul_right _ hm)
    · rw [← htk, List.take_take, Nat.min_eq_left (Nat.mul_le_mul_right _ hm)]
theorem zip_dropLast {α β : Type} : ∀ (l : List α) (m : List β), l.length = m.length → (l.zip m).dropLast = l.dropLast.zip m.dropLast
  | [], [], _ => rfl
  | [a], [b], _ => rfl
  | a :: a' :: l, b :: b' :: m, h => by
    have := zip_dropLast (a' :: l) (b' :: m) (by simpa using h)
    simp only [List.zip_cons_cons, List.dropLast_cons_cons] at this ⊢
    rw [this]
theorem Sat.dropLast : ∀ {l : List HP} {h : Hp}, Sat l h → Sat l.dropLast h
  | [], _, s => s
  | [_], _, _ => trivial
  | _ :: _ :: _, _, ⟨h1, h2, a, b, c, d, e⟩ => ⟨h1, h2, a, b, c, d, Sat.dropLast e⟩
theorem scp_pop {e : TypeId} {g n cp : Nat} {sc : List IMap} {L : List HP} {h : Hp} (s : Sat (scp e (some ⟨g, 0, none⟩) n cp sc :: L) h) : Sat (scp e (some ⟨g, 0, none⟩) sc.dropLast.length cp sc.dropLast :: L) h := by
  obtain ⟨h1, h2, a, b, c, ⟨bs, h3, h4, a', b', c', hp, hS⟩, f⟩ := s
  obtain ⟨hbs, rfl⟩ := hp
  refine ⟨h1, h2, a, b, c, ⟨bs.dropLast, ?_⟩, f⟩
  refine Sat.pure ⟨by simp [hbs], rfl⟩ ?_
  have h9 := own_cut (m := sc.dropLast.length) (by simp) (hS.mono b')
  obtain ⟨h5, h6, l5, l6, d5, ho, hz⟩ := h9
  refine ⟨h5, h6, l5, l6, d5, ?_, ?_⟩
  · have e1 : (bs.map fun b => Value.map (some b)).take (sc.dropLast.length * 1) = bs.dropLast.map fun b => Value.map (some b) := by
      rw [Nat.mul_one, List.length_dropLast, ← hbs, ← List.map_take, List.dropLast_eq_take]
    rw [e1] at ho
    exact ho
  · unfold zipM at hz ⊢
    rw [← zip_dropLast bs sc hbs, List.map_dropLast]
    exact Sat.dropLast hz
def F_ckFail (c : Ck) (er at1 : Int) : Ck := c.fail er at1
def F_ckExprs (c : Ck) (x : St) (at1 : Int) : Int × Ck := ((c.exprs x.op at1 0 0 x.e).2, (c.exprs x.op at1 0 0 x.e).1)
def F_ckLet (c : Ck) (s : ByteArray) (kd at1 : Int) : Ck := c.let_ s kd at1
theorem ckFail (I : Hp) (b_c : Nat) (c : Ck) (er : Int) (at1 : Int) : Fn Try.prog 40 #[.pointer (some ⟨b_c, 0, none⟩), .int .i64 (er), .int .i64 (at1)] I [ckR b_c c] (Ret (X := Unit) (fun x_ I' => True) (fun x_ => .tuple #[]) fun _ => [ckR b_c (F_ckFail c er at1)]) := fail I b_c c er at1
theorem ckExprs (I : Hp) (b_c : Nat) (c : Ck) (cs_x : List Value) (x : St) (h_x : RT I cs_x x) (at1 : Int) (hok : Ex.okl x.e 8 = true) (hz : x.sz ≤ 4294967296) (hsc : c.scope.length ≤ 4294967296) : Fn Try.prog 55 #[.pointer (some ⟨b_c, 0, none⟩), .agg (cs_x).toArray, .int .i64 (at1)] I [ckR b_c c] (Ret (X := Unit) (fun x_ I' => True) (fun x_ => .int .i64 ((F_ckExprs c x at1).1)) fun _ => [ckR b_c ((F_ckExprs c x at1).2)]) := let ⟨k, r⟩ := h_x; exprs k I cs_x x b_c c at1 r hok hz hsc
theorem ckLet (I : Hp) (b_c : Nat) (c : Ck) (s : ByteArray) (kd : Int) (at1 : Int) (h0 : 0 < c.scope.length) (hsc : c.scope.length ≤ 4294967296) : Fn Try.prog 56 #[.pointer (some ⟨b_c, 0, none⟩), .string (s), .int .i64 (kd), .int .i64 (at1)] I [ckR b_c c] (Ret (X := Unit) (fun x_ I' => True) (fun x_ => .tuple #[]) fun _ => [ckR b_c (F_ckLet c s kd at1)]) := let_ I b_c c s kd at1 h0 hsc

set_option maxHeartbeats 4000000 in
theorem ckBlock_rec : ∀ (N : Nat) (I : Hp) (b_c : Nat) (c : Ck) (A_l : Option Addr) (cp_l : Nat) (l : List St) (h_l : RTs I A_l (l).length cp_l l) (n_l : (l).length ≤ 4294967296) (dp : Nat) (hok : St.okl l dp = true) (hz : St.szl l ≤ 4294967296) (hsc : c.scope.length + St.szl l ≤ 4294967290) (hN : St.szl l < N), Fn Try.prog 41 #[.pointer (some ⟨b_c, 0, none⟩), .slice (A_l) ((l).length) (cp_l)] I [ckR b_c c] (Ret (X := Unit) (fun x_ I' => True) (fun x_ => .tuple #[]) fun _ => [ckR b_c (Ck.block c l)]) := by
 intro N
 induction N with
 | zero => intro I b_c c A_l cp_l l h_l n_l dp hok hz hsc hN; exact absurd hN (by omega)
 | succ N ih =>
 intro I b_c c A_l cp_l l h_l n_l dp hok hz hsc hN
 have hll := St.szl_len l
 refine Fn.of (args := [_, _]) Try.func41 rfl rfl ?_
 refine JJ.seq ?_
 refine JJ.exOpen ?_
 rintro ⟨A1, cp2, pb3⟩
 dsimp only [List.cons_append, List.nil_append]
 refine JJ.pull 1 rfl rfl ?_
 refine JJ.scpOpen fun bs hbs => ?_
 refine JJ.region rfl fun rg => ?_
 refine JJ.move rg rfl rfl rfl ?_
 refine JJ.move rg rfl rfl rfl ?_
 refine JJ.nilCheck rg rfl rfl rfl ?_
 refine JJ.fieldAddr (a' := ⟨b_c, 0, none⟩) fo89_0 rg rfl rfl rfl rfl ?_
 refine JJ.loadL (v := .slice (A1) ((c).scope.length) (cp2)) ty87 2 rg rfl rfl rfl rfl rfl ?_
 refine JJ.makeMapI rg rfl rfl fun b4 => ?_
 refine JJ.buildSlice (cs := [.map (some b4)]) eo87 zo85 rg rfl rfl rfl rfl rfl rfl rfl fun b5 => ?_
 refine JJ.append eo87 io85 rfl 2 rg rfl rfl rfl rfl rfl (SrcOk.ofLit (news := [.map (some b4)]) sl87 0 rfl (rfl) (by simp [Value.oneCell'])) (by omega) fun A6 c7 => ?_
 dsimp only [List.set]
 refine JJ.nilCheck rg rfl rfl rfl ?_
 refine JJ.fieldAddr (a' := ⟨b_c, 0, none⟩) fo89_0 rg rfl rfl rfl rfl ?_
 refine JJ.store (cs' := [.slice (A6) ((c).scope.length + 1) (c7), .map (some pb3), .int .i64 (c.at_), .int .i64 (c.fault.1), .int .i64 (c.fault.2)]) ty87 4 rg rfl rfl rfl rfl rfl rfl rfl rfl rfl rfl rfl ?_
 refine JJ.regionEnd ?_
 (try dsimp only [List.set])
 refine JJ.drop ?_
 refine JJ.pull 4 rfl rfl ?_
 refine JJ.pull 4 rfl rfl ?_
 refine JJ.pull 2 rfl rfl ?_
 refine JJ.pull 4 rfl rfl ?_
 refine JJ.pull 4 rfl rfl ?_
 refine JJ.res (fun h q => scp_push' hbs rfl q) ?_
 refine JJ.pull 2 rfl rfl ?_
 refine JJ.pull 1 rfl rfl ?_
 refine JJ.pull 2 rfl rfl ?_
 refine JJ.res (L' := [ckR b_c c.push]) (fun h q => ckR.close (by first | rfl | simp only [List.length_append, List.length_dropLast, List.length_cons, List.length_nil]) q) ?_
 refine JJ.seq ?_
 refine JJ.seq ?_
 refine JJ.region rfl fun rg => ?_
 refine JJ.move rg rfl rfl rfl ?_
 refine JJ.lenSlice ss23 rg rfl rfl rfl ?_
 refine JJ.move rg rfl rfl rfl ?_
 refine JJ.regionEnd ?_
 refine JJ.cut (X := Hp × Ck) (fun z => [(0, .pointer (some ⟨b_c, 0, none⟩))]) (fun z => z.1) (fun z => [ckR b_c z.2])
  (fun z => Hp.le (I) z.1 ∧ Ck.stmts c.push l = z.2 ∧ (z.2).scope.length = c.scope.length + 1) (fun hk16 => ?_) ?_
 ·
  refine JJ.block ?_
  refine JJ.induct (X := Nat × Hp × Ck) (fun z => [(0, .pointer (some ⟨b_c, 0, none⟩)), (18, .slice (A_l) ((l).length) (cp_l)), (19, .int .i64 ((((l).length : Nat) : Int))), (20, .int .i64 (((z.1 : Nat) : Int)))]) (fun z => z.2.1) (fun z => [ckR b_c z.2.2])
   (fun z => z.1 ≤ (l).length ∧ Hp.le (I) z.2.1 ∧ Ck.stmts c.push l = Ck.stmts z.2.2 (List.drop z.1 l) ∧ (z.2.2).scope.length = c.scope.length + 1) (fun z => (l).length - z.1)
   (0, I, c.push) ⟨Nat.zero_le _, .refl _, by rw [List.drop_zero], (Ck.push_len c)⟩
   (fun h => JJ.keep _ (by repeat (first | exact trivial | refine ⟨rfl, ?_⟩)) h) ?_
  rintro ⟨i9, I11, rb_c_8⟩ ⟨hi14, hle12, hsp13, hln⟩ ih15
  try dsimp only at hi14 hle12 hsp13 hln ih15 ⊢
  rcases Nat.lt_or_ge i9 ((l).length) with hlt_i9 | hge_i9
  ·
   obtain ⟨d10, hd_d10⟩ : ∃ d10, (l)[i9]? = some d10 := ⟨_, List.getElem?_eq_getElem hlt_i9⟩
   have hdr_i9 : List.drop i9 l = d10 :: List.drop (i9 + 1) l := drop_cons hd_d10
   have hz17 := St.szl_mem (List.mem_of_getElem? hd_d10)
   have hy18 := St.sz_eq d10
   have hl19 := Ex.szl_len (d10).e
   have hl20 := St.szl_len (d10).body
   have hl21 := St.szl_len (d10).els
   have hok_d10 := St.okl_mem hok (List.mem_of_getElem? hd_d10)
   refine JJ.seq ?_
   refine JJ.region rfl fun rg => ?_
   refine JJ.bin (v := .bool true) rg rfl rfl rfl rfl (congrArg (fun b => some (Value.bool b)) (decide_eq_true (by omega))) ?_
   refine JJ.regionEnd ?_
   refine JJ.seq ?_
   refine JJ.cond (b := true) rfl ?_
   refine JJ.skip ?_
   refine JJ.seq ?_
   refine JJ.block ?_
   refine JJ.seq ?_
   refine JJ.region rfl fun rg => ?_
   obtain ⟨a22, cs23, hA24, hcap25, -, hre26, hrow27⟩ := RSl.get (h_l.mono hle12) hd_d10
   have hlthd_d10 := (List.getElem?_eq_some_iff.1 hd_d10).1
   obtain ⟨A28, cp29, A31, cp32, A34, cp35, rfl, hx30, hx33, hx36⟩ := RT.open hre26
   refine JJ.indexAddrA hA24 (a' := a22.add (i9 * 7)) eo23 rg rfl rfl rfl rfl (by omega) (by omega) rfl ?_
   refine JJ.loadI (v := .agg #[.int .i64 (d10.op), .string (d10.s), .int .i64 (d10.n), .slice (A28) ((d10.e).length) (cp29), .slice (A31) ((d10.body).length) (cp32), .slice (A34) ((d10.els).length) (cp35), .bool (d10.commit)]) ty35 rg rfl rfl rfl hrow27 rfl ?_
   refine JJ.alloc (cs := [.int .i64 0, .string (⟨#[]⟩), .int .i64 0, .slice (none) (0) (0), .slice (none) (0) (0), .slice (none) (0) (0), .bool false]) zo35 rfl rg rfl rfl fun b37 => ?_
   refine JJ.store (cs' := [.int .i64 (d10.op), .string (d10.s), .int .i64 (d10.n), .slice (A28) ((d10.e).length) (cp29), .slice (A31) ((d10.body).length) (cp32), .slice (A34) ((d10.els).length) (cp35), .bool (d10.commit)]) ty35 0 rg rfl rfl rfl rfl rfl rfl rfl rfl rfl rfl rfl ?_
   refine JJ.regionEnd ?_
   refine JJ.seq ?_
   refine JJ.region rfl fun rg => ?_
   refine JJ.move rg rfl rfl rfl ?_
   refine JJ.nilCheck rg rfl rfl rfl ?_
   refine JJ.pull 1 rfl rfl ?_
   refine JJ.exOpen ?_
   rintro ⟨A38, cp39, pb40⟩
   dsimp only [List.cons_append, List.nil_append]
   refine JJ.fieldAddr (a' := ⟨b_c, 2, none⟩) fo89_2 rg rfl rfl rfl rfl ?_
   refine JJ.loadL (v := .int .i64 (rb_c_8.at_)) ty3 0 rg rfl rfl rfl rfl rfl ?_
   refine JJ.assign rg rfl rfl rfl ?_
   refine JJ.regionEnd ?_
   refine JJ.seq ?_
   refine JJ.region rfl fun rg => ?_
   refine JJ.move rg rfl rfl rfl ?_
   refine JJ.nilCheck rg rfl rfl rfl ?_
   refine JJ.fieldAddr (a' := ⟨b_c, 2, none⟩) fo89_2 rg rfl rfl rfl rfl ?_
   refine JJ.loadL (v := .int .i64 (rb_c_8.at_)) ty3 0 rg rfl rfl rfl rfl rfl ?_
   refine JJ.binI (z := IntKind.i64.wrap (rb_c_8.at_ + 1)) rg rfl rfl rfl rfl rfl rfl ?_
   refine JJ.nilCheck rg rfl rfl rfl ?_
   refine JJ.fieldAddr (a' := ⟨b_c, 2, none⟩) fo89_2 rg rfl rfl rfl rfl ?_
   refine JJ.store (cs' := [.slice (A38) ((rb_c_8).scope.length) (cp39), .map (some pb40), .int .i64 (IntKind.i64.wrap (rb_c_8.at_ + 1)), .int .i64 (rb_c_8.fault.1), .int .i64 (rb_c_8.fault.2)]) ty3 0 rg rfl rfl rfl rfl rfl rfl rfl rfl rfl rfl rfl ?_
   refine JJ.regionEnd ?_
   refine JJ.seq ?_
   refine JJ.region rfl fun rg => ?_
   refine JJ.move rg rfl rfl rfl ?_
   refine JJ.loadL (v := .agg #[.int .i64 (d10.op), .string (d10.s), .int .i64 (d10.n), .slice (A28) ((d10.e).length) (cp29), .slice (A31) ((d10.body).length) (cp32), .slice (A34) ((d10.els).length) (cp35), .bool (d10.commit)]) ty35 3 rg rfl rfl rfl rfl rfl ?_
   refine JJ.move rg rfl rfl rfl ?_
   refine JJ.pull 2 rfl rfl ?_
   refine JJ.pull 2 rfl rfl ?_
   refine JJ.pull 2 rfl rfl ?_
   refine JJ.res (L' := [ckR b_c (Ck.mk ((rb_c_8).scope) (rb_c_8.procs) (IntKind.i64.wrap (rb_c_8.at_ + 1)) rb_c_8.fault), blk b37 (.cells ([.int .i64 (d10.op), .string (d10.s), .int .i64 (d10.n), .slice (A28) ((d10.e).length) (cp29), .slice (A31) ((d10.body).length) (cp32), .slice (A34) ((d10.els).length) (cp35), .bool (d10.commit)]).toArray 35)]) (fun h q => ckR.close (by first | rfl | simp only [List.length_append, List.length_dropLast, List.length_cons, List.length_nil]) q) ?_
   (try dsimp only [List.set])
   refine JJ.call (Lr := [_]) bo55 rg rfl rfl rfl rfl (ckExprs _ b_c (Ck.mk ((rb_c_8).scope) (rb_c_8.procs) (IntKind.i64.wrap (rb_c_8.at_ + 1)) rb_c_8.fault) _ d10 hre26 rb_c_8.at_ (St.ok_e hok_d10) (by omega) (by (try dsimp only); omega)) (fun h q => q.pull 0 rfl) fun p42 I43 hle44 hp41 => ?_
   (try dsimp only [List.set, List.cons_append, List.nil_append])
   refine JJ.assign rg rfl rfl rfl ?_
   refine JJ.regionEnd ?_
   refine JJ.seq ?_
   refine JJ.seq ?_
   refine JJ.region rfl fun rg => ?_
   refine JJ.fieldAddr (a' := ⟨b37, 0, none⟩) fo35_0 rg rfl rfl rfl rfl ?_
   refine JJ.loadL (v := .int .i64 (d10.op)) ty3 1 rg rfl rfl rfl rfl rfl ?_
   refine JJ.regionEnd ?_
   refine JJ.block ?_
   refine JJ.seq ?_
   refine JJ.region rfl fun rg => ?_
   refine JJ.bin rg rfl rfl rfl rfl rfl ?_
   refine JJ.assign rg rfl rfl rfl ?_
   refine JJ.regionEnd ?_
   refine JJ.cut (X := Hp) (fun _ => [(0, .pointer (some ⟨b_c, 0, none⟩)), (5, .pointer (some ⟨b37, 0, none⟩)), (18, .slice (A_l) ((l).length) (cp_l)), (19, .int .i64 ((((l).length : Nat) : Int))), (20, .int .i64 (((i9 : Nat) : Int)))]) (fun x => x) (fun _ => [ckR b_c (bif decide ((d10.op : Int) = 12) then F_ckLet ((F_ckExprs (Ck.mk ((rb_c_8).scope) (rb_c_8.procs) (IntKind.i64.wrap (rb_c_8.at_ + 1)) rb_c_8.fault) d10 rb_c_8.at_).2) d10.s ((F_ckExprs (Ck.mk ((rb_c_8).scope) (rb_c_8.procs) (IntKind.i64.wrap (rb_c_8.at_ + 1)) rb_c_8.fault) d10 rb_c_8.at_).1) rb_c_8.at_ else (bif decide ((d10.op : Int) = 15) then (bif decide ((IMap.get (((F_ckExprs (Ck.mk ((rb_c_8).scope) (rb_c_8.procs) (IntKind.i64.wrap (rb_c_8.at_ + 1)) rb_c_8.fault) d10 rb_c_8.at_).2).procs) d10.s : Int) = 0) then F_ckFail ((F_ckExprs (Ck.mk ((rb_c_8).scope) (rb_c_8.procs) (IntKind.i64.wrap (rb_c_8.at_ + 1)) rb_c_8.fault) d10 rb_c_8.at_).2) 9 rb_c_8.at_ else (F_ckExprs (Ck.mk ((rb_c_8).scope) (rb_c_8.procs) (IntKind.i64.wrap (rb_c_8.at_ + 1)) rb_c_8.fault) d10 rb_c_8.at_).2) else (F_ckExprs (Ck.mk ((rb_c_8).scope) (rb_c_8.procs) (IntKind.i64.wrap (rb_c_8.at_ + 1)) rb_c_8.fault) d10 rb_c_8.at_).2)), blk b37 (.cells ([.int .i64 (d10.op), .string (d10.s), .int .i64 (d10.n), .slice (A28) ((d10.e).length) (cp29), .slice (A31) ((d10.body).length) (cp32), .slice (A34) ((d10.els).length) (cp35), .bool (d10.commit)]).toArray 35)]) (fun x => Hp.le (I43) x) (fun hk45 => ?_) ?_
   ·
    refine JJ.cond2 rfl (fun hc8 => ?_) (fun hc8 => ?_)
    ·
     have hc8b := hc8
     replace hc8 := of_decide_eq_true hc8
     refine JJ.region rfl fun rg => ?_
     refine JJ.move rg rfl rfl rfl ?_
     refine JJ.fieldAddr (a' := ⟨b37, 1, none⟩) fo35_1 rg rfl rfl rfl rfl ?_
     refine JJ.loadL (v := .string (d10.s)) ty9 1 rg rfl rfl rfl rfl rfl ?_
     refine JJ.move rg rfl rfl rfl ?_
     refine JJ.move rg rfl rfl rfl ?_
     (try dsimp only [List.set])
     refine JJ.call (Lr := [_]) bo56 rg rfl rfl rfl rfl (ckLet _ b_c ((F_ckExprs (Ck.mk ((rb_c_8).scope) (rb_c_8.procs) (IntKind.i64.wrap (rb_c_8.at_ + 1)) rb_c_8.fault) d10 rb_c_8.at_).2) d10.s ((F_ckExprs (Ck.mk ((rb_c_8).scope) (rb_c_8.procs) (IntKind.i64.wrap (rb_c_8.at_ + 1)) rb_c_8.fault) d10 rb_c_8.at_).1) rb_c_8.at_ (by (try simp only [Bool.cond_decide]); (repeat' split) <;> (try simp only [Ck.exprs_len, Ck.let_len, Ck.fail_len, Ck.block_len, F_ckExprs, F_ckLet, F_ckFail, Ck.push_len]) <;> omega) (by (try simp only [Bool.cond_decide]); (repeat' split) <;> (try simp only [Ck.exprs_len, Ck.let_len, Ck.fail_len, Ck.block_len, F_ckExprs, F_ckLet, F_ckFail, Ck.push_len]) <;> omega)) (fun h q => q.pull 0 rfl) fun p49 I50 hle51 hp48 => ?_
     (try dsimp only [List.set, List.cons_append, List.nil_append])
     refine JJ.regionEnd ?_
     refine JJ.res (L' := [ckR b_c (bif decide ((d10.op : Int) = 12) then F_ckLet ((F_ckExprs (Ck.mk ((rb_c_8).scope) (rb_c_8.procs) (IntKind.i64.wrap (rb_c_8.at_ + 1)) rb_c_8.fault) d10 rb_c_8.at_).2) d10.s ((F_ckExprs (Ck.mk ((rb_c_8).scope) (rb_c_8.procs) (IntKind.i64.wrap (rb_c_8.at_ + 1)) rb_c_8.fault) d10 rb_c_8.at_).1) rb_c_8.at_ else (bif decide ((d10.op : Int) = 15) then (bif decide ((IMap.get (((F_ckExprs (Ck.mk ((rb_c_8).scope) (rb_c_8.procs) (IntKind.i64.wrap (rb_c_8.at_ + 1)) rb_c_8.fault) d10 rb_c_8.at_).2).procs) d10.s : Int) = 0) then F_ckFail ((F_ckExprs (Ck.mk ((rb_c_8).scope) (rb_c_8.procs) (IntKind.i64.wrap (rb_c_8.at_ + 1)) rb_c_8.fault) d10 rb_c_8.at_).2) 9 rb_c_8.at_ else (F_ckExprs (Ck.mk ((rb_c_8).scope) (rb_c_8.procs) (IntKind.i64.wrap (rb_c_8.at_ + 1)) rb_c_8.fault) d10 rb_c_8.at_).2) else (F_ckExprs (Ck.mk ((rb_c_8).scope) (rb_c_8.procs) (IntKind.i64.wrap (rb_c_8.at_ + 1)) rb_c_8.fault) d10 rb_c_8.at_).2)), blk b37 (.cells ([.int .i64 (d10.op), .string (d10.s), .int .i64 (d10.n), .slice (A28) ((d10.e).length) (cp29), .slice (A31) ((d10.body).length) (cp32), .slice (A34) ((d10.els).length) (cp35), .bool (d10.commit)]).toArray 35)]) (fun h q => by simp only [hc8b, xb0, xb1, xb2, xb3, xb4, xb5, xb6, xb7, xb8, xb9, xb10, xb11]; exact q) ?_
     refine JJ.keep _ ?_ (hk45 _ hle51)
     exact ⟨rfl, rfl, rfl, rfl, rfl, trivial⟩
    ·
     have hc8b := hc8
     replace hc8 := of_decide_eq_false hc8
     refine JJ.seq ?_
     refine JJ.region rfl fun rg => ?_
     refine JJ.bin rg rfl rfl rfl rfl rfl ?_
     refine JJ.assign rg rfl rfl rfl ?_
     refine JJ.regionEnd ?_
     refine JJ.cut (X := Hp) (fun _ => [(0, .pointer (some ⟨b_c, 0, none⟩)), (5, .pointer (some ⟨b37, 0, none⟩)), (18, .slice (A_l) ((l).length) (cp_l)), (19, .int .i64 ((((l).length : Nat) : Int))), (20, .int .i64 (((i9 : Nat) : Int)))]) (fun x => x) (fun _ => [ckR b_c (bif decide ((d10.op : Int) = 15) then (bif decide ((IMap.get (((F_ckExprs (Ck.mk ((rb_c_8).scope) (rb_c_8.procs) (IntKind.i64.wrap (rb_c_8.at_ + 1)) rb_c_8.fault) d10 rb_c_8.at_).2).procs) d10.s : Int) = 0) then F_ckFail ((F_ckExprs (Ck.mk ((rb_c_8).scope) (rb_c_8.procs) (IntKind.i64.wrap (rb_c_8.at_ + 1)) rb_c_8.fault) d10 rb_c_8.at_).2) 9 rb_c_8.at_ else (F_ckExprs (Ck.mk ((rb_c_8).scope) (rb_c_8.procs) (IntKind.i64.wrap (rb_c_8.at_ + 1)) rb_c_8.fault) d10 rb_c_8.at_).2) else (F_ckExprs (Ck.mk ((rb_c_8).scope) (rb_c_8.procs) (IntKind.i64.wrap (rb_c_8.at_ + 1)) rb_c_8.fault) d10 rb_c_8.at_).2), blk b37 (.cells ([.int .i64 (d10.op), .string (d10.s), .int .i64 (d10.n), .slice (A28) ((d10.e).length) (cp29), .slice (A31) ((d10.body).length) (cp32), .slice (A34) ((d10.els).length) (cp35), .bool (d10.commit)]).toArray 35)]) (fun x => Hp.le (I43) x) (fun hk52 => ?_) ?_
     ·
      refine JJ.cond2 rfl (fun hc10 => ?_) (fun hc10 => ?_)
      ·
       have hc10b := hc10
       replace hc10 := of_decide_eq_true hc10
       refine JJ.seq ?_
       refine JJ.exOpen ?_
       rintro ⟨A58, cp59, pb60⟩
       dsimp only [List.cons_append, List.nil_append]
       refine JJ.draw (m := 8) [(0, .pointer (some ⟨b_c, 0, none⟩)), (5, .pointer (some ⟨b37, 0, none⟩)), (6, .int .i64 (rb_c_8.at_)), (18, .slice (A_l) ((l).length) (cp_l)), (19, .int .i64 ((((l).length : Nat) : Int))), (20, .int .i64 (((i9 : Nat) : Int)))]
        (fun i => match i with | 0 => fun _ v => v = .pointer (some ⟨b_c, 0, none⟩) | 1 => fun _ v => v = .pointer (some ⟨b_c, 0, none⟩) | 2 => fun _ v => v = .pointer (some ⟨b_c, 1, none⟩) | 3 => fun _ v => v = .map (some pb60) | 4 => fun _ v => v = .pointer (some ⟨b37, 1, none⟩) | 5 => fun _ v => v = .string (d10.s) | 6 => fun _ v => v = .int .i64 (IMap.get (((F_ckExprs (Ck.mk ((rb_c_8).scope) (rb_c_8.procs) (IntKind.i64.wrap (rb_c_8.at_ + 1)) rb_c_8.fault) d10 rb_c_8.at_).2).procs) d10.s) | 7 => fun _ v => v = .bool (decide ((IMap.get (((F_ckExprs (Ck.mk ((rb_c_8).scope) (rb_c_8.procs) (IntKind.i64.wrap (rb_c_8.at_ + 1)) rb_c_8.fault) d10 rb_c_8.at_).2).procs) d10.s : Int) = 0)) | _ => fun _ _ => False) mx rfl rfl ?_ (by repeat (first | exact trivial | refine ⟨rfl, ?_⟩)) (fun rg => ?_) (fun rg => ?_)
       ·
        rintro (_ | _ | _ | _ | _ | _ | _ | _ | i) I1_ I2_ v l h
        · exact h
        · exact h
        · exact h
        · exact h
        · exact h
        · exact h
        · exact h
        · exact h
        · exact h
       ·
        refine ⟨?_, ?_, ?_, ?_, ?_, ?_, ?_, ?_, trivial⟩
        ·
         intro is E2 I2_ hle_ hb hd kk_
         obtain ⟨hb0, hb5, hb6, hb18, hb19, hb20, -⟩ := hb
         refine JJ.move rg rfl rfl hb0 (kk_ _ _ (.refl _) rfl)
        ·
         intro is E2 I2_ hle_ hb hd kk_
         obtain ⟨hb0, hb5, hb6, hb18, hb19, hb20, -⟩ := hb
         obtain ⟨d0, v0, e0, g0, s0⟩ := hd 0 (by decide)
         cases e0
         subst s0
         refine JJ.nilCheck rg rfl rfl g0 (kk_ _ _ (.refl _) rfl)
        ·
         intro is E2 I2_ hle_ hb hd kk_
         obtain ⟨hb0, hb5, hb6, hb18, hb19, hb20, -⟩ := hb
         obtain ⟨d1, v1, e1, g1, s1⟩ := hd 1 (by decide)
         cases e1
         subst s1
         refine JJ.fieldAddr (a' := ⟨b_c, 1, none⟩) fo89_1 rg rfl rfl g1 rfl (kk_ _ _ (.refl _) rfl)
        ·
         intro is E2 I2_ hle_ hb hd kk_
         obtain ⟨hb0, hb5, hb6, hb18, hb19, hb20, -⟩ := hb
         obtain ⟨d2, v2, e2, g2, s2⟩ := hd 2 (by decide)
         cases e2
         subst s2
         refine JJ.loadL (v := .map (some pb60)) ty85 0 rg rfl rfl g2 rfl rfl (kk_ _ _ (.refl _) rfl)
        ·
         intro is E2 I2_ hle_ hb hd kk_
         obtain ⟨hb0, hb5, hb6, hb18, hb19, hb20, -⟩ := hb
         refine JJ.fieldAddr (a' := ⟨b37, 1, none⟩) fo35_1 rg rfl rfl hb5 rfl (kk_ _ _ (.refl _) rfl)
        ·
         intro is E2 I2_ hle_ hb hd kk_
         obtain ⟨hb0, hb5, hb6, hb18, hb19, hb20, -⟩ := hb
         obtain ⟨d4, v4, e4, g4, s4⟩ := hd 4 (by decide)
         cases e4
         subst s4
         refine JJ.loadL (v := .string (d10.s)) ty9 3 rg rfl rfl g4 rfl rfl (kk_ _ _ (.refl _) rfl)
        ·
         intro is E2 I2_ hle_ hb hd kk_
         obtain ⟨hb0, hb5, hb6, hb18, hb19, hb20, -⟩ := hb
         obtain ⟨d3, v3, e3, g3, s3⟩ := hd 3 (by decide)
         cases e3
         subst s3
         obtain ⟨d5, v5, e5, g5, s5⟩ := hd 5 (by decide)
         cases e5
         subst s5
         refine JJ.lookupI sm85 zo3 2 rg rfl rfl g3 g5 rfl (kk_ _ _ (.refl _) rfl)
        ·
         intro is E2 I2_ hle_ hb hd kk_
         obtain ⟨hb0, hb5, hb6, hb18, hb19, hb20, -⟩ := hb
         obtain ⟨d6, v6, e6, g6, s6⟩ := hd 6 (by decide)
         cases e6
         subst s6
         refine JJ.bin rg rfl rfl g6 rfl rfl (kk_ _ _ (.refl _) rfl)
       intro vs I62 hle61 hs_
       obtain ⟨hv0, hv1, hv2, hv3, hv4, hv5, hv6, hv7, -⟩ := hs_
       refine JJ.keep [(0, .pointer (some ⟨b_c, 0, none⟩)), (18, .slice (A_l) ((l).length) (cp_l)), (19, .int .i64 ((((l).length : Nat) : Int))), (20, .int .i64 (((i9 : Nat) : Int))), (5, .pointer (some ⟨b37, 0, none⟩)), (6, .int .i64 (rb_c_8.at_)), (58, .bool (decide ((IMap.get (((F_ckExprs (Ck.mk ((rb_c_8).scope) (rb_c_8.procs) (IntKind.i64.wrap (rb_c_8.at_ + 1)) rb_c_8.fault) d10 rb_c_8.at_).2).procs) d10.s : Int) = 0)))] ⟨rfl, rfl, rfl, rfl, rfl, rfl, congrArg some hv7, trivial⟩ ?_
       refine JJ.regionEnd ?_
       refine JJ.cond2 rfl (fun hc11 => ?_) (fun hc11 => ?_)
       ·
        have hc11b := hc11
        replace hc11 := of_decide_eq_true hc11
        refine JJ.region rfl fun rg => ?_
        refine JJ.move rg rfl rfl rfl ?_
        refine JJ.move rg rfl rfl rfl ?_
        refine JJ.pull 2 rfl rfl ?_
        refine JJ.pull 2 rfl rfl ?_
        refine JJ.pull 2 rfl rfl ?_
        refine JJ.res (L' := [ckR b_c (F_ckExprs (Ck.mk ((rb_c_8).scope) (rb_c_8.procs) (IntKind.i64.wrap (rb_c_8.at_ + 1)) rb_c_8.fault) d10 rb_c_8.at_).2, blk b37 (.cells ([.int .i64 (d10.op), .string (d10.s), .int .i64 (d10.n), .slice (A28) ((d10.e).length) (cp29), .slice (A31) ((d10.body).length) (cp32), .slice (A34) ((d10.els).length) (cp35), .bool (d10.commit)]).toArray 35)]) (fun h q => ckR.close (by first | rfl | simp only [List.length_append, List.length_dropLast, List.length_cons, List.length_nil]) q) ?_
        (try dsimp only [List.set])
        refine JJ.call (Lr := [_]) bo40 rg rfl rfl rfl rfl (ckFail _ b_c ((F_ckExprs (Ck.mk ((rb_c_8).scope) (rb_c_8.procs) (IntKind.i64.wrap (rb_c_8.at_ + 1)) rb_c_8.fault) d10 rb_c_8.at_).2) 9 rb_c_8.at_ ) (fun h q => q.pull 0 rfl) fun p64 I65 hle66 hp63 => ?_
        (try dsimp only [List.set, List.cons_append, List.nil_append])
        refine JJ.regionEnd ?_
        refine JJ.res (L' := [ckR b_c (bif decide ((d10.op : Int) = 15) then (bif decide ((IMap.get (((F_ckExprs (Ck.mk ((rb_c_8).scope) (rb_c_8.procs) (IntKind.i64.wrap (rb_c_8.at_ + 1)) rb_c_8.fault) d10 rb_c_8.at_).2).procs) d10.s : Int) = 0) then F_ckFail ((F_ckExprs (Ck.mk ((rb_c_8).scope) (rb_c_8.procs) (IntKind.i64.wrap (rb_c_8.at_ + 1)) rb_c_8.fault) d10 rb_c_8.at_).2) 9 rb_c_8.at_ else (F_ckExprs (Ck.mk ((rb_c_8).scope) (rb_c_8.procs) (IntKind.i64.wrap (rb_c_8.at_ + 1)) rb_c_8.fault) d10 rb_c_8.at_).2) else (F_ckExprs (Ck.mk ((rb_c_8).scope) (rb_c_8.procs) (IntKind.i64.wrap (rb_c_8.at_ + 1)) rb_c_8.fault) d10 rb_c_8.at_).2), blk b37 (.cells ([.int .i64 (d10.op), .string (d10.s), .int .i64 (d10.n), .slice (A28) ((d10.e).length) (cp29), .slice (A31) ((d10.body).length) (cp32), .slice (A34) ((d10.els).length) (cp35), .bool (d10.commit)]).toArray 35)]) (fun h q => by simp only [hc10b, hc11b, xb0, xb1, xb2, xb3, xb4, xb5, xb6, xb7, xb8, xb9, xb10, xb11]; exact q) ?_
        refine JJ.keep _ ?_ (hk52 _ (hle61.trans hle66))
        exact ⟨rfl, rfl, rfl, rfl, rfl, trivial⟩
       ·
        have hc11b := hc11
        replace hc11 := of_decide_eq_false hc11
        refine JJ.skip ?_
        refine JJ.pull 2 rfl rfl ?_
        refine JJ.pull 2 rfl rfl ?_
        refine JJ.pull 2 rfl rfl ?_
        refine JJ.res (L' := [ckR b_c (F_ckExprs (Ck.mk ((rb_c_8).scope) (rb_c_8.procs) (IntKind.i64.wrap (rb_c_8.at_ + 1)) rb_c_8.fault) d10 rb_c_8.at_).2, blk b37 (.cells ([.int .i64 (d10.op), .string (d10.s), .int .i64 (d10.n), .slice (A28) ((d10.e).length) (cp29), .slice (A31) ((d10.body).length) (cp32), .slice (A34) ((d10.els).length) (cp35), .bool (d10.commit)]).toArray 35)]) (fun h q => ckR.close (by first | rfl | simp only [List.length_append, List.length_dropLast, List.length_cons, List.length_nil]) q) ?_
        refine JJ.res (L' := [ckR b_c (bif decide ((d10.op : Int) = 15) then (bif decide ((IMap.get (((F_ckExprs (Ck.mk ((rb_c_8).scope) (rb_c_8.procs) (IntKind.i64.wrap (rb_c_8.at_ + 1)) rb_c_8.fault) d10 rb_c_8.at_).2).procs) d10.s : Int) = 0) then F_ckFail ((F_ckExprs (Ck.mk ((rb_c_8).scope) (rb_c_8.procs) (IntKind.i64.wrap (rb_c_8.at_ + 1)) rb_c_8.fault) d10 rb_c_8.at_).2) 9 rb_c_8.at_ else (F_ckExprs (Ck.mk ((rb_c_8).scope) (rb_c_8.procs) (IntKind.i64.wrap (rb_c_8.at_ + 1)) rb_c_8.fault) d10 rb_c_8.at_).2) else (F_ckExprs (Ck.mk ((rb_c_8).scope) (rb_c_8.procs) (IntKind.i64.wrap (rb_c_8.at_ + 1)) rb_c_8.fault) d10 rb_c_8.at_).2), blk b37 (.cells ([.int .i64 (d10.op), .string (d10.s), .int .i64 (d10.n), .slice (A28) ((d10.e).length) (cp29), .slice (A31) ((d10.body).length) (cp32), .slice (A34) ((d10.els).length) (cp35), .bool (d10.commit)]).toArray 35)]) (fun h q => by simp only [hc10b, hc11b, xb0, xb1, xb2, xb3, xb4, xb5, xb6, xb7, xb8, xb9, xb10, xb11]; exact q) ?_
        refine JJ.keep _ ?_ (hk52 _ hle61)
        exact ⟨rfl, rfl, rfl, rfl, rfl, trivial⟩
      ·
       have hc10b := hc10
       replace hc10 := of_decide_eq_false hc10
       refine JJ.skip ?_
       refine JJ.res (L' := [ckR b_c (bif decide ((d10.op : Int) = 15) then (bif decide ((IMap.get (((F_ckExprs (Ck.mk ((rb_c_8).scope) (rb_c_8.procs) (IntKind.i64.wrap (rb_c_8.at_ + 1)) rb_c_8.fault) d10 rb_c_8.at_).2).procs) d10.s : Int) = 0) then F_ckFail ((F_ckExprs (Ck.mk ((rb_c_8).scope) (rb_c_8.procs) (IntKind.i64.wrap (rb_c_8.at_ + 1)) rb_c_8.fault) d10 rb_c_8.at_).2) 9 rb_c_8.at_ else (F_ckExprs (Ck.mk ((rb_c_8).scope) (rb_c_8.procs) (IntKind.i64.wrap (rb_c_8.at_ + 1)) rb_c_8.fault) d10 rb_c_8.at_).2) else (F_ckExprs (Ck.mk ((rb_c_8).scope) (rb_c_8.procs) (IntKind.i64.wrap (rb_c_8.at_ + 1)) rb_c_8.fault) d10 rb_c_8.at_).2), blk b37 (.cells ([.int .i64 (d10.op), .string (d10.s), .int .i64 (d10.n), .slice (A28) ((d10.e).length) (cp29), .slice (A31) ((d10.body).length) (cp32), .slice (A34) ((d10.els).length) (cp35), .bool (d10.commit)]).toArray 35)]) (fun h q => by simp only [hc10b, xb0, xb1, xb2, xb3, xb4, xb5, xb6, xb7, xb8, xb9, xb10, xb11]; exact q) ?_
       refine JJ.keep _ ?_ (hk52 _ (.refl _))
       exact ⟨rfl, rfl, rfl, rfl, rfl, trivial⟩
     ·
      intro I53 hle54
      refine JJ.res (L' := [ckR b_c (bif decide ((d10.op : Int) = 12) then F_ckLet ((F_ckExprs (Ck.mk ((rb_c_8).scope) (rb_c_8.procs) (IntKind.i64.wrap (rb_c_8.at_ + 1)) rb_c_8.fault) d10 rb_c_8.at_).2) d10.s ((F_ckExprs (Ck.mk ((rb_c_8).scope) (rb_c_8.procs) (IntKind.i64.wrap (rb_c_8.at_ + 1)) rb_c_8.fault) d10 rb_c_8.at_).1) rb_c_8.at_ else (bif decide ((d10.op : Int) = 15) then (bif decide ((IMap.get (((F_ckExprs (Ck.mk ((rb_c_8).scope) (rb_c_8.procs) (IntKind.i64.wrap (rb_c_8.at_ + 1)) rb_c_8.fault) d10 rb_c_8.at_).2).procs) d10.s : Int) = 0) then F_ckFail ((F_ckExprs (Ck.mk ((rb_c_8).scope) (rb_c_8.procs) (IntKind.i64.wrap (rb_c_8.at_ + 1)) rb_c_8.fault) d10 rb_c_8.at_).2) 9 rb_c_8.at_ else (F_ckExprs (Ck.mk ((rb_c_8).scope) (rb_c_8.procs) (IntKind.i64.wrap (rb_c_8.at_ + 1)) rb_c_8.fault) d10 rb_c_8.at_).2) else (F_ckExprs (Ck.mk ((rb_c_8).scope) (rb_c_8.procs) (IntKind.i64.wrap (rb_c_8.at_ + 1)) rb_c_8.fault) d10 rb_c_8.at_).2)), blk b37 (.cells ([.int .i64 (d10.op), .string (d10.s), .int .i64 (d10.n), .slice (A28) ((d10.e).length) (cp29), .slice (A31) ((d10.body).length) (cp32), .slice (A34) ((d10.els).length) (cp35), .bool (d10.commit)]).toArray 35)]) (fun h q => by simp only [hc8b, xb0, xb1, xb2, xb3, xb4, xb5, xb6, xb7, xb8, xb9, xb10, xb11]; exact q) ?_
      refine JJ.keep _ ?_ (hk45 _ hle54)
      exact ⟨rfl, rfl, rfl, rfl, rfl, trivial⟩
   ·
    intro I46 hle47
    refine JJ.inBlock ?_
    refine JJ.seq ?_
    refine JJ.region rfl fun rg => ?_
    refine JJ.move rg rfl rfl rfl ?_
    refine JJ.fieldAddr (a' := ⟨b37, 4, none⟩) fo35_4 rg rfl rfl rfl rfl ?_
    refine JJ.loadL (v := .slice (A31) ((d10.body).length) (cp32)) ty23 1 rg rfl rfl rfl rfl rfl ?_
    (try dsimp only [List.set])
    refine JJ.call (Lr := [_]) bo41 rg rfl rfl rfl rfl (ih _ b_c ((bif decide ((d10.op : Int) = 12) then F_ckLet ((F_ckExprs (Ck.mk ((rb_c_8).scope) (rb_c_8.procs) (IntKind.i64.wrap (rb_c_8.at_ + 1)) rb_c_8.fault) d10 rb_c_8.at_).2) d10.s ((F_ckExprs (Ck.mk ((rb_c_8).scope) (rb_c_8.procs) (IntKind.i64.wrap (rb_c_8.at_ + 1)) rb_c_8.fault) d10 rb_c_8.at_).1) rb_c_8.at_ else (bif decide ((d10.op : Int) = 15) then (bif decide ((IMap.get (((F_ckExprs (Ck.mk ((rb_c_8).scope) (rb_c_8.procs) (IntKind.i64.wrap (rb_c_8.at_ + 1)) rb_c_8.fault) d10 rb_c_8.at_).2).procs) d10.s : Int) = 0) then F_ckFail ((F_ckExprs (Ck.mk ((rb_c_8).scope) (rb_c_8.procs) (IntKind.i64.wrap (rb_c_8.at_ + 1)) rb_c_8.fault) d10 rb_c_8.at_).2) 9 rb_c_8.at_ else (F_ckExprs (Ck.mk ((rb_c_8).scope) (rb_c_8.procs) (IntKind.i64.wrap (rb_c_8.at_ + 1)) rb_c_8.fault) d10 rb_c_8.at_).2) else (F_ckExprs (Ck.mk ((rb_c_8).scope) (rb_c_8.procs) (IntKind.i64.wrap (rb_c_8.at_ + 1)) rb_c_8.fault) d10 rb_c_8.at_).2))) _ _ d10.body (hx33.mono (hle44.trans hle47)) (by first | assumption | omega | (simp; done)) _ (by first | exact St.ok_b hok_d10 | exact St.ok_f hok_d10) (by omega) (by (try simp only [Bool.cond_decide]); (repeat' split) <;> (try simp only [Ck.exprs_len, Ck.let_len, Ck.fail_len, Ck.block_len, F_ckExprs, F_ckLet, F_ckFail, Ck.push_len]) <;> omega) (by omega)) (fun h q => q.pull 0 rfl) fun p68 I69 hle70 hp67 => ?_
    (try dsimp only [List.set, List.cons_append, List.nil_append])
    refine JJ.regionEnd ?_
    refine JJ.region rfl fun rg => ?_
    refine JJ.move rg rfl rfl rfl ?_
    refine JJ.fieldAddr (a' := ⟨b37, 5, none⟩) fo35_5 rg rfl rfl rfl rfl ?_
    refine JJ.loadL (v := .slice (A34) ((d10.els).length) (cp35)) ty23 1 rg rfl rfl rfl rfl rfl ?_
    (try dsimp only [List.set])
    refine JJ.call (Lr := [_]) bo41 rg rfl rfl rfl rfl (ih _ b_c (Ck.block (bif decide ((d10.op : Int) = 12) then F_ckLet ((F_ckExprs (Ck.mk ((rb_c_8).scope) (rb_c_8.procs) (IntKind.i64.wrap (rb_c_8.at_ + 1)) rb_c_8.fault) d10 rb_c_8.at_).2) d10.s ((F_ckExprs (Ck.mk ((rb_c_8).scope) (rb_c_8.procs) (IntKind.i64.wrap (rb_c_8.at_ + 1)) rb_c_8.fault) d10 rb_c_8.at_).1) rb_c_8.at_ else (bif decide ((d10.op : Int) = 15) then (bif decide ((IMap.get (((F_ckExprs (Ck.mk ((rb_c_8).scope) (rb_c_8.procs) (IntKind.i64.wrap (rb_c_8.at_ + 1)) rb_c_8.fault) d10 rb_c_8.at_).2).procs) d10.s : Int) = 0) then F_ckFail ((F_ckExprs (Ck.mk ((rb_c_8).scope) (rb_c_8.procs) (IntKind.i64.wrap (rb_c_8.at_ + 1)) rb_c_8.fault) d10 rb_c_8.at_).2) 9 rb_c_8.at_ else (F_ckExprs (Ck.mk ((rb_c_8).scope) (rb_c_8.procs) (IntKind.i64.wrap (rb_c_8.at_ + 1)) rb_c_8.fault) d10 rb_c_8.at_).2) else (F_ckExprs (Ck.mk ((rb_c_8).scope) (rb_c_8.procs) (IntKind.i64.wrap (rb_c_8.at_ + 1)) rb_c_8.fault) d10 rb_c_8.at_).2)) d10.body) _ _ d10.els (hx36.mono (hle44.trans (hle47.trans hle70))) (by first | assumption | omega | (simp; done)) _ (by first | exact St.ok_b hok_d10 | exact St.ok_f hok_d10) (by omega) (by (try simp only [Bool.cond_decide]); (repeat' split) <;> (try simp only [Ck.exprs_len, Ck.let_len, Ck.fail_len, Ck.block_len, F_ckExprs, F_ckLet, F_ckFail, Ck.push_len]) <;> omega) (by omega)) (fun h q => q.pull 0 rfl) fun p72 I73 hle74 hp71 => ?_
    (try dsimp only [List.set, List.cons_append, List.nil_append])
    refine JJ.regionEnd ?_
    refine JJ.inBlock ?_
    refine JJ.region rfl fun rg => ?_
    refine JJ.binI (z := ((i9 + 1 : Nat) : Int)) rg rfl rfl rfl rfl rfl (wrap_to (by omega) (by omega) (by omega)) ?_
    refine JJ.move rg rfl rfl rfl ?_
    refine JJ.regionEnd ?_
    refine JJ.pull 1 rfl rfl ?_
    refine JJ.drop ?_
    have hnx : Ck.stmts c.push l = Ck.stmts (Ck.block (Ck.block (bif decide ((d10.op : Int) = 12) then F_ckLet ((F_ckExprs (Ck.mk ((rb_c_8).scope) (rb_c_8.procs) (IntKind.i64.wrap (rb_c_8.at_ + 1)) rb_c_8.fault) d10 rb_c_8.at_).2) d10.s ((F_ckExprs (Ck.mk ((rb_c_8).scope) (rb_c_8.procs) (IntKind.i64.wrap (rb_c_8.at_ + 1)) rb_c_8.fault) d10 rb_c_8.at_).1) rb_c_8.at_ else (bif decide ((d10.op : Int) = 15) then (bif decide ((IMap.get (((F_ckExprs (Ck.mk ((rb_c_8).scope) (rb_c_8.procs) (IntKind.i64.wrap (rb_c_8.at_ + 1)) rb_c_8.fault) d10 rb_c_8.at_).2).procs) d10.s : Int) = 0) then F_ckFail ((F_ckExprs (Ck.mk ((rb_c_8).scope) (rb_c_8.procs) (IntKind.i64.wrap (rb_c_8.at_ + 1)) rb_c_8.fault) d10 rb_c_8.at_).2) 9 rb_c_8.at_ else (F_ckExprs (Ck.mk ((rb_c_8).scope) (rb_c_8.procs) (IntKind.i64.wrap (rb_c_8.at_ + 1)) rb_c_8.fault) d10 rb_c_8.at_).2) else (F_ckExprs (Ck.mk ((rb_c_8).scope) (rb_c_8.procs) (IntKind.i64.wrap (rb_c_8.at_ + 1)) rb_c_8.fault) d10 rb_c_8.at_).2)) d10.body) d10.els) (List.drop (i9 + 1) l) := by rw [hsp13, hdr_i9]; simp only [Ck.stmts, Ck.stmt_eq, Ck.own, Ck.next, F_ckExprs, F_ckLet, F_ckFail, Bool.cond_decide, xb0, xb1, xb2, xb3, xb4, xb5, xb6, xb7, xb8, xb9, xb10, xb11] <;> (by_cases g1 : d10.op = 12 <;> simp only [g1, if_true, if_false] <;> (by_cases g2 : d10.op = 15 <;> simp only [g2, if_true, if_false] <;> (rename_i x_; split <;> simp_all)))
    refine JJ.keep _ ?_ (ih15 (i9 + 1, I73, Ck.block (Ck.block (bif decide ((d10.op : Int) = 12) then F_ckLet ((F_ckExprs (Ck.mk ((rb_c_8).scope) (rb_c_8.procs) (IntKind.i64.wrap (rb_c_8.at_ + 1)) rb_c_8.fault) d10 rb_c_8.at_).2) d10.s ((F_ckExprs (Ck.mk ((rb_c_8).scope) (rb_c_8.procs) (IntKind.i64.wrap (rb_c_8.at_ + 1)) rb_c_8.fault) d10 rb_c_8.at_).1) rb_c_8.at_ else (bif decide ((d10.op : Int) = 15) then (bif decide ((IMap.get (((F_ckExprs (Ck.mk ((rb_c_8).scope) (rb_c_8.procs) (IntKind.i64.wrap (rb_c_8.at_ + 1)) rb_c_8.fault) d10 rb_c_8.at_).2).procs) d10.s : Int) = 0) then F_ckFail ((F_ckExprs (Ck.mk ((rb_c_8).scope) (rb_c_8.procs) (IntKind.i64.wrap (rb_c_8.at_ + 1)) rb_c_8.fault) d10 rb_c_8.at_).2) 9 rb_c_8.at_ else (F_ckExprs (Ck.mk ((rb_c_8).scope) (rb_c_8.procs) (IntKind.i64.wrap (rb_c_8.at_ + 1)) rb_c_8.fault) d10 rb_c_8.at_).2) else (F_ckExprs (Ck.mk ((rb_c_8).scope) (rb_c_8.procs) (IntKind.i64.wrap (rb_c_8.at_ + 1)) rb_c_8.fault) d10 rb_c_8.at_).2)) d10.body) d10.els) ⟨hlt_i9, (hle12.trans (hle44.trans (hle47.trans (hle70.trans hle74)))), hnx, (by (try simp only [Bool.cond_decide]); (repeat' split) <;> (try simp only [Ck.exprs_len, Ck.let_len, Ck.fail_len, Ck.block_len, F_ckExprs, F_ckLet, F_ckFail, Ck.push_len]) <;> omega)⟩ (by dsimp only; omega))
    repeat (first | exact trivial | refine ⟨rfl, ?_⟩)
  ·
   have heq_i9 : i9 = (l).length := by omega
   have hdr_i9 : List.drop i9 l = [] := by rw [heq_i9]; exact List.drop_length
   refine JJ.seq ?_
   refine JJ.region rfl fun rg => ?_
   refine JJ.bin (v := .bool false) rg rfl rfl rfl rfl (congrArg (fun b => some (Value.bool b)) (decide_eq_false (by omega))) ?_
   refine JJ.regionEnd ?_
   refine JJ.seq ?_
   refine JJ.cond (b := false) rfl ?_
   refine JJ.exit rfl ?_
   have hE : Ck.stmts c.push l = rb_c_8 := by rw [hsp13, hdr_i9]; simp only [Ck.stmts, Ck.stmt_eq, Ck.own, Ck.next, F_ckExprs, F_ckLet, F_ckFail, Bool.cond_decide, xb0, xb1, xb2, xb3, xb4, xb5, xb6, xb7, xb8, xb9, xb10, xb11] <;> (by_cases g1 : d10.op = 12 <;> simp only [g1, if_true, if_false] <;> (by_cases g2 : d10.op = 15 <;> simp only [g2, if_true, if_false] <;> (rename_i x_; split <;> simp_all)))
   refine JJ.keep _ ?_ (hk16 (I11, rb_c_8) ⟨hle12, hE, hln⟩)
   repeat (first | exact trivial | refine ⟨rfl, ?_⟩)
 ·
  rintro ⟨I75, rb_c_8⟩ ⟨hle76, hE77, hln⟩
  try dsimp only at hle76 hE77 hln ⊢
  refine JJ.exOpen ?_
  rintro ⟨A78, cp79, pb80⟩
  dsimp only [List.cons_append, List.nil_append]
  refine JJ.pull 1 rfl rfl ?_
  refine JJ.scpSome (by omega) fun g81 hAg hcpg => ?_
  subst hAg
  refine JJ.draw (m := 12) [(0, .pointer (some ⟨b_c, 0, none⟩))]
   (fun i => match i with | 0 => fun _ v => v = .pointer (some ⟨b_c, 0, none⟩) | 1 => fun _ v => v = .pointer (some ⟨b_c, 0, none⟩) | 2 => fun _ v => v = .pointer (some ⟨b_c, 0, none⟩) | 3 => fun _ v => v = .pointer (some ⟨b_c, 0, none⟩) | 4 => fun _ v => v = .slice (some ⟨g81, 0, none⟩) ((rb_c_8).scope.length) (cp79) | 5 => fun _ v => v = .pointer (some ⟨b_c, 0, none⟩) | 6 => fun _ v => v = .pointer (some ⟨b_c, 0, none⟩) | 7 => fun _ v => v = .pointer (some ⟨b_c, 0, none⟩) | 8 => fun _ v => v = .slice (some ⟨g81, 0, none⟩) ((rb_c_8).scope.length) (cp79) | 9 => fun _ v => v = .int .i64 ((((rb_c_8).scope.length : Nat) : Int)) | 10 => fun _ v => v = .int .i64 ((((rb_c_8).scope.length - 1 : Nat) : Int)) | 11 => fun _ v => v = .slice (some ⟨g81, 0, none⟩) ((rb_c_8).scope.length - 1) (cp79) | _ => fun _ _ => False) mx rfl rfl ?_ (by repeat (first | exact trivial | refine ⟨rfl, ?_⟩)) (fun rg => ?_) (fun rg => ?_)
  ·
   rintro (_ | _ | _ | _ | _ | _ | _ | _ | _ | _ | _ | _ | i) I1_ I2_ v l h
   · exact h
   · exact h
   · exact h
   · exact h
   · exact h
   · exact h
   · exact h
   · exact h
   · exact h
   · exact h
   · exact h
   · exact h
   · exact h
  ·
   refine ⟨?_, ?_, ?_, ?_, ?_, ?_, ?_, ?_, ?_, ?_, ?_, ?_, trivial⟩
   ·
    intro is E2 I2_ hle_ hb hd kk_
    obtain ⟨hb0, -⟩ := hb
    refine JJ.move rg rfl rfl hb0 (kk_ _ _ (.refl _) rfl)
   ·
    intro is E2 I2_ hle_ hb hd kk_
    obtain ⟨hb0, -⟩ := hb
    refine JJ.move rg rfl rfl hb0 (kk_ _ _ (.refl _) rfl)
   ·
    intro is E2 I2_ hle_ hb hd kk_
    obtain ⟨hb0, -⟩ := hb
    obtain ⟨d1, v1, e1, g1, s1⟩ := hd 1 (by decide)
    cases e1
    subst s1
    refine JJ.nilCheck rg rfl rfl g1 (kk_ _ _ (.refl _) rfl)
   ·
    intro is E2 I2_ hle_ hb hd kk_
    obtain ⟨hb0, -⟩ := hb
    obtain ⟨d2, v2, e2, g2, s2⟩ := hd 2 (by decide)
    cases e2
    subst s2
    refine JJ.fieldAddr (a' := ⟨b_c, 0, none⟩) fo89_0 rg rfl rfl g2 rfl (kk_ _ _ (.refl _) rfl)
   ·
    intro is E2 I2_ hle_ hb hd kk_
    obtain ⟨hb0, -⟩ := hb
    obtain ⟨d3, v3, e3, g3, s3⟩ := hd 3 (by decide)
    cases e3
    subst s3
    refine JJ.loadL (v := .slice (some ⟨g81, 0, none⟩) ((rb_c_8).scope.length) (cp79)) ty87 1 rg rfl rfl g3 rfl rfl (kk_ _ _ (.refl _) rfl)
   ·
    intro is E2 I2_ hle_ hb hd kk_
    obtain ⟨hb0, -⟩ := hb
    refine JJ.move rg rfl rfl hb0 (kk_ _ _ (.refl _) rfl)
   ·
    intro is E2 I2_ hle_ hb hd kk_
    obtain ⟨hb0, -⟩ := hb
    obtain ⟨d5, v5, e5, g5, s5⟩ := hd 5 (by decide)
    cases e5
    subst s5
    refine JJ.nilCheck rg rfl rfl g5 (kk_ _ _ (.refl _) rfl)
   ·
    intro is E2 I2_ hle_ hb hd kk_
    obtain ⟨hb0, -⟩ := hb
    obtain ⟨d6, v6, e6, g6, s6⟩ := hd 6 (by decide)
    cases e6
    subst s6
    refine JJ.fieldAddr (a' := ⟨b_c, 0, none⟩) fo89_0 rg rfl rfl g6 rfl (kk_ _ _ (.refl _) rfl)
   ·
    intro is E2 I2_ hle_ hb hd kk_
    obtain ⟨hb0, -⟩ := hb
    obtain ⟨d7, v7, e7, g7, s7⟩ := hd 7 (by decide)
    cases e7
    subst s7
    refine JJ.loadL (v := .slice (some ⟨g81, 0, none⟩) ((rb_c_8).scope.length) (cp79)) ty87 1 rg rfl rfl g7 rfl rfl (kk_ _ _ (.refl _) rfl)
   ·
    intro is E2 I2_ hle_ hb hd kk_
    obtain ⟨hb0, -⟩ := hb
    obtain ⟨d8, v8, e8, g8, s8⟩ := hd 8 (by decide)
    cases e8
    subst s8
    refine JJ.lenSlice ss87 rg rfl rfl g8 (kk_ _ _ (.refl _) rfl)
   ·
    intro is E2 I2_ hle_ hb hd kk_
    obtain ⟨hb0, -⟩ := hb
    obtain ⟨d9, v9, e9, g9, s9⟩ := hd 9 (by decide)
    cases e9
    subst s9
    refine JJ.binI (z := (((rb_c_8).scope.length - 1 : Nat) : Int)) rg rfl rfl g9 rfl rfl (wrap_to (by omega) (by omega) (by omega)) (kk_ _ _ (.refl _) rfl)
   ·
    intro is E2 I2_ hle_ hb hd kk_
    obtain ⟨hb0, -⟩ := hb
    obtain ⟨d4, v4, e4, g4, s4⟩ := hd 4 (by decide)
    cases e4
    subst s4
    obtain ⟨d10, v10, e10, g10, s10⟩ := hd 10 (by decide)
    cases e10
    subst s10
    refine JJ.cutSlice (h := (rb_c_8).scope.length - 1) eo87 rg rfl rfl g4 g10 (by omega) (kk_ _ _ (.refl _) rfl)
  intro vs I83 hle82 hs_
  obtain ⟨hv0, hv1, hv2, hv3, hv4, hv5, hv6, hv7, hv8, hv9, hv10, hv11, -⟩ := hs_
  refine JJ.keep [(71, .pointer (some ⟨b_c, 0, none⟩)), (82, .slice (some ⟨g81, 0, none⟩) ((rb_c_8).scope.length - 1) (cp79))] ⟨congrArg some hv0, congrArg some hv11, trivial⟩ ?_
  refine JJ.nilCheck rg rfl rfl rfl ?_
  refine JJ.fieldAddr (a' := ⟨b_c, 0, none⟩) fo89_0 rg rfl rfl rfl rfl ?_
  refine JJ.store (cs' := [.slice (some ⟨g81, 0, none⟩) ((rb_c_8).scope.length - 1) (cp79), .map (some pb80), .int .i64 (rb_c_8.at_), .int .i64 (rb_c_8.fault.1), .int .i64 (rb_c_8.fault.2)]) ty87 1 rg rfl rfl rfl rfl rfl rfl rfl rfl rfl rfl rfl ?_
  refine JJ.regionEnd ?_
  refine JJ.res (fun h q => scp_pop q) ?_
  refine JJ.pull 2 rfl rfl ?_
  refine JJ.pull 1 rfl rfl ?_
  refine JJ.pull 2 rfl rfl ?_
  refine JJ.res (L' := [ckR b_c (Ck.pop rb_c_8)]) (fun h q => ckR.close (by first | rfl | simp only [List.length_append, List.length_dropLast, List.length_cons, List.length_nil]) q) ?_
  have hF : Ck.block c l = Ck.pop rb_c_8 := by simp only [Ck.block, hE77, xb0, xb1, xb2, xb3, xb4, xb5, xb6, xb7, xb8, xb9, xb10, xb11]
  exact JJ.end0 rfl Try.func41 rfl (fun h h_ => ⟨(), trivial, rfl, (by first | exact h_ | (rw [hF]; exact h_))⟩)
theorem ckBlock (I : Hp) (b_c : Nat) (c : Ck) (A_l : Option Addr) (cp_l : Nat) (l : List St) (h_l : RTs I A_l (l).length cp_l l) (n_l : (l).length ≤ 4294967296) (dp : Nat) (hok : St.okl l dp = true) (hz : St.szl l ≤ 4294967296) (hsc : c.scope.length + St.szl l ≤ 4294967290) : Fn Try.prog 41 #[.pointer (some ⟨b_c, 0, none⟩), .slice (A_l) ((l).length) (cp_l)] I [ckR b_c c] (Ret (X := Unit) (fun x_ I' => True) (fun x_ => .tuple #[]) fun _ => [ckR b_c (Ck.block c l)]) := ckBlock_rec _ I b_c c A_l cp_l l h_l n_l dp hok hz hsc (Nat.lt_succ_self _)
end Wl
end Go.Proofs.Ytlcdafeoionnhaa
