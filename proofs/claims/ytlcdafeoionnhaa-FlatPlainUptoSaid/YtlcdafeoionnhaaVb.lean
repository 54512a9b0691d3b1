/- Walks of functions, printed by a program of this session (wip/tool/eng.py). -/
import Derived.Test.YtlcdafeoionnhaaProg
import Derived.Test.YtlcdafeoionnhaaAuto
namespace Go.Proofs.Ytlcdafeoionnhaa
open Go
set_option linter.unusedVariables false
set_option linter.unusedSimpArgs false
namespace Vb
theorem bo43 : bodyOk Try.prog 43 = true := by kernel_rfl
theorem eo23 : elemO Try.prog 23 = some (35, 7) := by kernel_rfl
theorem fo35_0 : fieldO Try.prog 35 0 = some 0 := by kernel_rfl
theorem fo35_1 : fieldO Try.prog 35 1 = some 1 := by kernel_rfl
theorem fo35_2 : fieldO Try.prog 35 2 = some 2 := by kernel_rfl
theorem fo35_4 : fieldO Try.prog 35 4 = some 4 := by kernel_rfl
theorem fo35_5 : fieldO Try.prog 35 5 = some 5 := by kernel_rfl
theorem mx : Try.prog.follows .mixedOrders = true := by kernel_rfl
theorem sm92 : smapT Try.prog 92 = some 3 := by kernel_rfl
theorem ss23 : isSliceT Try.prog 23 = true := by kernel_rfl
theorem ty2 : tyI Try.prog 2 = some (false, 1) := by kernel_rfl
theorem ty23 : tyI Try.prog 23 = some (false, 1) := by kernel_rfl
theorem ty3 : tyI Try.prog 3 = some (false, 1) := by kernel_rfl
theorem ty35 : tyI Try.prog 35 = some (true, 7) := by kernel_rfl
theorem ty9 : tyI Try.prog 9 = some (false, 1) := by kernel_rfl
theorem zo3 : zeroOf Try.prog 3 = some (.int .i64 0) := by kernel_rfl
theorem zo35 : zeroOf Try.prog 35 = some (.agg #[.int .i64 0, .string ⟨#[]⟩, .int .i64 0, .slice none 0 0, .slice none 0 0, .slice none 0 0, .bool false]) := by kernel_rfl
mutual
def F_steps_l0 (kn : IMap) : List St → Int → Int
  | [], v5_1 => v5_1
  | d3 :: LREST, v5_1 => F_steps_l0 kn LREST (min ((bif decide ((d3.op : Int) = 14) then IntKind.i64.wrap ((IntKind.i64.wrap (v5_1 + 1)) + (IntKind.i64.wrap (d3.n * (F_steps kn d3.body)))) else (bif decide ((d3.op : Int) = 13) then IntKind.i64.wrap ((IntKind.i64.wrap (v5_1 + 1)) + (max (F_steps kn d3.body) (F_steps kn d3.els))) else (bif decide ((d3.op : Int) = 16) then IntKind.i64.wrap ((IntKind.i64.wrap (v5_1 + 1)) + (((d3.body).length : Nat) : Int)) else (bif decide ((d3.op : Int) = 15) then IntKind.i64.wrap ((IntKind.i64.wrap (v5_1 + 1)) + (IMap.get (kn) d3.s)) else IntKind.i64.wrap (v5_1 + 1)))))) 65537)
  termination_by l _ => 2 * St.szl l
  decreasing_by all_goals ((try simp only [Ex.szl, Ex.sz_eq, St.szl, St.sz_eq]); omega)
def F_steps (kn : IMap) (l : List St) : Int :=
  (fun v5_1 => v5_1) (F_steps_l0 kn l 0)
  termination_by 2 * St.szl l + 1
  decreasing_by all_goals ((try simp only [Ex.szl, Ex.sz_eq, St.szl, St.sz_eq]); omega)
end
set_option maxHeartbeats 4000000 in
theorem steps_rec : ∀ (N : Nat) (I : Hp) (b_kn : Nat) (kn : IMap) (A_l : Option Addr) (cp_l : Nat) (l : List St) (h_l : RTs I A_l (l).length cp_l l) (n_l : (l).length ≤ 4294967296) (hz : St.szl l ≤ 4294967296) (hN : St.szl l < N), Fn Try.prog 43 #[.map (some b_kn), .slice (A_l) ((l).length) (cp_l)] I [mapR b_kn (IMap.toS kn)] (Ret (X := Unit) (fun x_ I' => True) (fun x_ => .int .i64 (F_steps kn l)) fun _ => [mapR b_kn (IMap.toS kn)]) := by
 intro N
 induction N with
 | zero => intro I b_kn kn A_l cp_l l h_l n_l hz hN; exact absurd hN (by omega)
 | succ N ih =>
 intro I b_kn kn A_l cp_l l h_l n_l hz hN
 refine Fn.of (args := [_, _]) Try.func43 rfl rfl ?_
 refine JJ.seq ?_
 refine JJ.region rfl fun rg => ?_
 refine JJ.assign rg rfl rfl rfl ?_
 refine JJ.regionEnd ?_
 refine JJ.seq ?_
 refine JJ.region rfl fun rg => ?_
 refine JJ.assign rg rfl rfl rfl ?_
 refine JJ.regionEnd ?_
 refine JJ.seq ?_
 refine JJ.seq ?_
 refine JJ.region rfl fun rg => ?_
 refine JJ.move rg rfl rfl rfl ?_
 refine JJ.lenSlice ss23 rg rfl rfl rfl ?_
 refine JJ.move rg rfl rfl rfl ?_
 refine JJ.regionEnd ?_
 refine JJ.cut (X := Hp × Int) (fun z => [(5, .int .i64 (z.2))]) (fun z => z.1) (fun z => [mapR b_kn (IMap.toS kn)])
  (fun z => Hp.le (I) z.1 ∧ F_steps_l0 kn l 0 = z.2) (fun hk9 => ?_) ?_
 ·
  refine JJ.block ?_
  refine JJ.induct (X := Nat × Hp × Int) (fun z => [(0, .map (some b_kn)), (5, .int .i64 (z.2.2)), (8, .slice (A_l) ((l).length) (cp_l)), (9, .int .i64 ((((l).length : Nat) : Int))), (10, .int .i64 (((z.1 : Nat) : Int)))]) (fun z => z.2.1) (fun z => [mapR b_kn (IMap.toS kn)])
   (fun z => z.1 ≤ (l).length ∧ Hp.le (I) z.2.1 ∧ F_steps_l0 kn l 0 = F_steps_l0 kn (List.drop z.1 l) z.2.2) (fun z => (l).length - z.1)
   (0, I, 0) ⟨Nat.zero_le _, .refl _, by rw [List.drop_zero]⟩
   (fun h => JJ.keep _ (by repeat (first | exact trivial | refine ⟨rfl, ?_⟩)) h) ?_
  rintro ⟨i2, I4, v5_1⟩ ⟨hi7, hle5, hsp6⟩ ih8
  try dsimp only at hi7 hle5 hsp6 ih8 ⊢
  rcases Nat.lt_or_ge i2 ((l).length) with hlt_i2 | hge_i2
  ·
   obtain ⟨d3, hd_d3⟩ : ∃ d3, (l)[i2]? = some d3 := ⟨_, List.getElem?_eq_getElem hlt_i2⟩
   have hdr_i2 : List.drop i2 l = d3 :: List.drop (i2 + 1) l := drop_cons hd_d3
   have hz10 := St.szl_mem (List.mem_of_getElem? hd_d3)
   have hy11 := St.sz_eq d3
   have hl12 := Ex.szl_len (d3).e
   have hl13 := St.szl_len (d3).body
   have hl14 := St.szl_len (d3).els
   refine JJ.seq ?_
   refine JJ.region rfl fun rg => ?_
   refine JJ.bin (v := .bool true) rg rfl rfl rfl rfl (congrArg (fun b => some (Value.bool b)) (decide_eq_true (by omega))) ?_
   refine JJ.regionEnd ?_
   refine JJ.seq ?_
   refine JJ.cond (b := true) rfl ?_
   refine JJ.skip ?_
   refine JJ.seq ?_
   refine JJ.block ?_
   refine JJ.seq ?_
   refine JJ.region rfl fun rg => ?_
   obtain ⟨a15, cs16, hA17, hcap18, -, hre19, hrow20⟩ := RSl.get (h_l.mono hle5) hd_d3
   have hlthd_d3 := (List.getElem?_eq_some_iff.1 hd_d3).1
   obtain ⟨A21, cp22, A24, cp25, A27, cp28, rfl, hx23, hx26, hx29⟩ := RT.open hre19
   refine JJ.indexAddrA hA17 (a' := a15.add (i2 * 7)) eo23 rg rfl rfl rfl rfl (by omega) (by omega) rfl ?_
   refine JJ.loadI (v := .agg #[.int .i64 (d3.op), .string (d3.s), .int .i64 (d3.n), .slice (A21) ((d3.e).length) (cp22), .slice (A24) ((d3.body).length) (cp25), .slice (A27) ((d3.els).length) (cp28), .bool (d3.commit)]) ty35 rg rfl rfl rfl hrow20 rfl ?_
   refine JJ.alloc (cs := [.int .i64 0, .string (⟨#[]⟩), .int .i64 0, .slice (none) (0) (0), .slice (none) (0) (0), .slice (none) (0) (0), .bool false]) zo35 rfl rg rfl rfl fun b30 => ?_
   refine JJ.store (cs' := [.int .i64 (d3.op), .string (d3.s), .int .i64 (d3.n), .slice (A21) ((d3.e).length) (cp22), .slice (A24) ((d3.body).length) (cp25), .slice (A27) ((d3.els).length) (cp28), .bool (d3.commit)]) ty35 0 rg rfl rfl rfl rfl rfl rfl rfl rfl rfl rfl rfl ?_
   refine JJ.regionEnd ?_
   refine JJ.seq ?_
   refine JJ.region rfl fun rg => ?_
   refine JJ.move rg rfl rfl rfl ?_
   refine JJ.binI (z := IntKind.i64.wrap (v5_1 + 1)) rg rfl rfl rfl rfl rfl rfl ?_
   refine JJ.assign rg rfl rfl rfl ?_
   refine JJ.regionEnd ?_
   refine JJ.seq ?_
   refine JJ.seq ?_
   refine JJ.region rfl fun rg => ?_
   refine JJ.fieldAddr (a' := ⟨b30, 0, none⟩) fo35_0 rg rfl rfl rfl rfl ?_
   refine JJ.loadL (v := .int .i64 (d3.op)) ty3 0 rg rfl rfl rfl rfl rfl ?_
   refine JJ.regionEnd ?_
   refine JJ.block ?_
   refine JJ.seq ?_
   refine JJ.region rfl fun rg => ?_
   refine JJ.bin rg rfl rfl rfl rfl rfl ?_
   refine JJ.assign rg rfl rfl rfl ?_
   refine JJ.regionEnd ?_
   refine JJ.cut (X := Hp) (fun _ => [(5, .int .i64 ((bif decide ((d3.op : Int) = 14) then IntKind.i64.wrap ((IntKind.i64.wrap (v5_1 + 1)) + (IntKind.i64.wrap (d3.n * (F_steps kn d3.body)))) else (bif decide ((d3.op : Int) = 13) then IntKind.i64.wrap ((IntKind.i64.wrap (v5_1 + 1)) + (max (F_steps kn d3.body) (F_steps kn d3.els))) else (bif decide ((d3.op : Int) = 16) then IntKind.i64.wrap ((IntKind.i64.wrap (v5_1 + 1)) + (((d3.body).length : Nat) : Int)) else (bif decide ((d3.op : Int) = 15) then IntKind.i64.wrap ((IntKind.i64.wrap (v5_1 + 1)) + (IMap.get (kn) d3.s)) else IntKind.i64.wrap (v5_1 + 1))))))), (0, .map (some b_kn)), (8, .slice (A_l) ((l).length) (cp_l)), (9, .int .i64 ((((l).length : Nat) : Int))), (10, .int .i64 (((i2 : Nat) : Int)))]) (fun x => x) (fun _ => [blk b30 (.cells ([.int .i64 (d3.op), .string (d3.s), .int .i64 (d3.n), .slice (A21) ((d3.e).length) (cp22), .slice (A24) ((d3.body).length) (cp25), .slice (A27) ((d3.els).length) (cp28), .bool (d3.commit)]).toArray 35), mapR b_kn (IMap.toS kn)]) (fun x => Hp.le (I4) x) (fun hk31 => ?_) ?_
   ·
    refine JJ.cond2 rfl (fun hc7 => ?_) (fun hc7 => ?_)
    ·
     have hc7b := hc7
     replace hc7 := of_decide_eq_true hc7
     refine JJ.draw (m := 9) [(0, .map (some b_kn)), (5, .int .i64 (IntKind.i64.wrap (v5_1 + 1))), (7, .pointer (some ⟨b30, 0, none⟩)), (8, .slice (A_l) ((l).length) (cp_l)), (9, .int .i64 ((((l).length : Nat) : Int))), (10, .int .i64 (((i2 : Nat) : Int)))]
      (fun i => match i with | 0 => fun _ v => v = .int .i64 (IntKind.i64.wrap (v5_1 + 1)) | 1 => fun _ v => v = .pointer (some ⟨b30, 2, none⟩) | 2 => fun _ v => v = .int .i64 (d3.n) | 3 => fun _ v => v = .map (some b_kn) | 4 => fun _ v => v = .pointer (some ⟨b30, 4, none⟩) | 5 => fun _ v => v = .slice (A24) ((d3.body).length) (cp25) | 6 => fun I v => ∃ p_ : Unit, v = .int .i64 (F_steps kn d3.body) ∧ True | 7 => fun _ v => v = .int .i64 (IntKind.i64.wrap (d3.n * (F_steps kn d3.body))) | 8 => fun _ v => v = .int .i64 (IntKind.i64.wrap ((IntKind.i64.wrap (v5_1 + 1)) + (IntKind.i64.wrap (d3.n * (F_steps kn d3.body))))) | _ => fun _ _ => False) mx rfl rfl ?_ (by repeat (first | exact trivial | refine ⟨rfl, ?_⟩)) (fun rg => ?_) (fun rg => ?_)
     ·
      rintro (_ | _ | _ | _ | _ | _ | _ | _ | _ | i) I1_ I2_ v l h
      · exact h
      · exact h
      · exact h
      · exact h
      · exact h
      · exact h
      · obtain ⟨p_, h1, h0⟩ := h; exact ⟨p_, h1, trivial⟩
      · exact h
      · exact h
      · exact h
     ·
      refine ⟨?_, ?_, ?_, ?_, ?_, ?_, ?_, ?_, ?_, trivial⟩
      ·
       intro is E2 I2_ hle_ hb hd kk_
       obtain ⟨hb0, hb5, hb7, hb8, hb9, hb10, -⟩ := hb
       refine JJ.move rg rfl rfl hb5 (kk_ _ _ (.refl _) rfl)
      ·
       intro is E2 I2_ hle_ hb hd kk_
       obtain ⟨hb0, hb5, hb7, hb8, hb9, hb10, -⟩ := hb
       refine JJ.fieldAddr (a' := ⟨b30, 2, none⟩) fo35_2 rg rfl rfl hb7 rfl (kk_ _ _ (.refl _) rfl)
      ·
       intro is E2 I2_ hle_ hb hd kk_
       obtain ⟨hb0, hb5, hb7, hb8, hb9, hb10, -⟩ := hb
       obtain ⟨d1, v1, e1, g1, s1⟩ := hd 1 (by decide)
       cases e1
       subst s1
       refine JJ.loadL (v := .int .i64 (d3.n)) ty2 0 rg rfl rfl g1 rfl rfl (kk_ _ _ (.refl _) rfl)
      ·
       intro is E2 I2_ hle_ hb hd kk_
       obtain ⟨hb0, hb5, hb7, hb8, hb9, hb10, -⟩ := hb
       refine JJ.move rg rfl rfl hb0 (kk_ _ _ (.refl _) rfl)
      ·
       intro is E2 I2_ hle_ hb hd kk_
       obtain ⟨hb0, hb5, hb7, hb8, hb9, hb10, -⟩ := hb
       refine JJ.fieldAddr (a' := ⟨b30, 4, none⟩) fo35_4 rg rfl rfl hb7 rfl (kk_ _ _ (.refl _) rfl)
      ·
       intro is E2 I2_ hle_ hb hd kk_
       obtain ⟨hb0, hb5, hb7, hb8, hb9, hb10, -⟩ := hb
       obtain ⟨d4, v4, e4, g4, s4⟩ := hd 4 (by decide)
       cases e4
       subst s4
       refine JJ.loadL (v := .slice (A24) ((d3.body).length) (cp25)) ty23 0 rg rfl rfl g4 rfl rfl (kk_ _ _ (.refl _) rfl)
      ·
       intro is E2 I2_ hle_ hb hd kk_
       obtain ⟨hb0, hb5, hb7, hb8, hb9, hb10, -⟩ := hb
       obtain ⟨d3, v3, e3, g3, s3⟩ := hd 3 (by decide)
       cases e3
       subst s3
       obtain ⟨d5, v5, e5, g5, s5⟩ := hd 5 (by decide)
       cases e5
       subst s5
       (try dsimp only [List.set])
       refine JJ.call (Lr := [_]) bo43 rg rfl rfl rfl (evL_cons g3 (evL_cons g5 rfl)) (ih _ b_kn (kn) _ _ d3.body (hx26.mono hle_) (by first | assumption | omega | (simp; done)) (by first | assumption | omega) (by omega)) (fun h q => q.pull 1 rfl) fun p35 I36 hle37 hp34 => ?_
       exact JJ.res (h := kk_ _ _ hle37 ⟨(), rfl, trivial⟩) (k := fun h q => Sat.put (L := [_, (fun _ => True)]) 1 (by simp only [List.length_cons]; omega) q)
      ·
       intro is E2 I2_ hle_ hb hd kk_
       obtain ⟨hb0, hb5, hb7, hb8, hb9, hb10, -⟩ := hb
       obtain ⟨d2, v2, e2, g2, s2⟩ := hd 2 (by decide)
       cases e2
       subst s2
       obtain ⟨d6, v6, e6, g6, s6⟩ := hd 6 (by decide)
       cases e6
       obtain ⟨_, rfl, _⟩ := s6
       refine JJ.binI (z := IntKind.i64.wrap (d3.n * (F_steps kn d3.body))) rg rfl rfl g2 g6 rfl rfl (kk_ _ _ (.refl _) rfl)
      ·
       intro is E2 I2_ hle_ hb hd kk_
       obtain ⟨hb0, hb5, hb7, hb8, hb9, hb10, -⟩ := hb
       obtain ⟨d0, v0, e0, g0, s0⟩ := hd 0 (by decide)
       cases e0
       subst s0
       obtain ⟨d7, v7, e7, g7, s7⟩ := hd 7 (by decide)
       cases e7
       subst s7
       refine JJ.binI (z := IntKind.i64.wrap ((IntKind.i64.wrap (v5_1 + 1)) + (IntKind.i64.wrap (d3.n * (F_steps kn d3.body))))) rg rfl rfl g0 g7 rfl rfl (kk_ _ _ (.refl _) rfl)
     intro vs I39 hle38 hs_
     obtain ⟨hv0, hv1, hv2, hv3, hv4, hv5, hv6, hv7, hv8, -⟩ := hs_
     obtain ⟨_, hv6, _⟩ := hv6
     refine JJ.keep [(0, .map (some b_kn)), (5, .int .i64 (IntKind.i64.wrap (v5_1 + 1))), (8, .slice (A_l) ((l).length) (cp_l)), (9, .int .i64 ((((l).length : Nat) : Int))), (10, .int .i64 (((i2 : Nat) : Int))), (28, .int .i64 (IntKind.i64.wrap ((IntKind.i64.wrap (v5_1 + 1)) + (IntKind.i64.wrap (d3.n * (F_steps kn d3.body))))))] ⟨rfl, rfl, rfl, rfl, rfl, congrArg some hv8, trivial⟩ ?_
     refine JJ.assign rg rfl rfl rfl ?_
     refine JJ.regionEnd ?_
     refine JJ.keep _ ?_ (hk31 _ hle38)
     exact ⟨congrArg (fun z => some (Value.int .i64 z)) (by simp only [hc7b, xb0, xb1, xb2, xb3, xb4, xb5, xb6, xb7, xb8, xb9, xb10, xb11]), rfl, rfl, rfl, rfl, trivial⟩
    ·
     have hc7b := hc7
     replace hc7 := of_decide_eq_false hc7
     refine JJ.seq ?_
     refine JJ.region rfl fun rg => ?_
     refine JJ.bin rg rfl rfl rfl rfl rfl ?_
     refine JJ.assign rg rfl rfl rfl ?_
     refine JJ.regionEnd ?_
     refine JJ.cut (X := Hp) (fun _ => [(5, .int .i64 ((bif decide ((d3.op : Int) = 13) then IntKind.i64.wrap ((IntKind.i64.wrap (v5_1 + 1)) + (max (F_steps kn d3.body) (F_steps kn d3.els))) else (bif decide ((d3.op : Int) = 16) then IntKind.i64.wrap ((IntKind.i64.wrap (v5_1 + 1)) + (((d3.body).length : Nat) : Int)) else (bif decide ((d3.op : Int) = 15) then IntKind.i64.wrap ((IntKind.i64.wrap (v5_1 + 1)) + (IMap.get (kn) d3.s)) else IntKind.i64.wrap (v5_1 + 1)))))), (0, .map (some b_kn)), (8, .slice (A_l) ((l).length) (cp_l)), (9, .int .i64 ((((l).length : Nat) : Int))), (10, .int .i64 (((i2 : Nat) : Int)))]) (fun x => x) (fun _ => [blk b30 (.cells ([.int .i64 (d3.op), .string (d3.s), .int .i64 (d3.n), .slice (A21) ((d3.e).length) (cp22), .slice (A24) ((d3.body).length) (cp25), .slice (A27) ((d3.els).length) (cp28), .bool (d3.commit)]).toArray 35), mapR b_kn (IMap.toS kn)]) (fun x => Hp.le (I4) x) (fun hk40 => ?_) ?_
     ·
      refine JJ.cond2 rfl (fun hc9 => ?_) (fun hc9 => ?_)
      ·
       have hc9b := hc9
       replace hc9 := of_decide_eq_true hc9
       refine JJ.draw (m := 11) [(0, .map (some b_kn)), (5, .int .i64 (IntKind.i64.wrap (v5_1 + 1))), (7, .pointer (some ⟨b30, 0, none⟩)), (8, .slice (A_l) ((l).length) (cp_l)), (9, .int .i64 ((((l).length : Nat) : Int))), (10, .int .i64 (((i2 : Nat) : Int)))]
        (fun i => match i with | 0 => fun _ v => v = .int .i64 (IntKind.i64.wrap (v5_1 + 1)) | 1 => fun _ v => v = .map (some b_kn) | 2 => fun _ v => v = .pointer (some ⟨b30, 4, none⟩) | 3 => fun _ v => v = .slice (A24) ((d3.body).length) (cp25) | 4 => fun I v => ∃ p_ : Unit, v = .int .i64 (F_steps kn d3.body) ∧ True | 5 => fun _ v => v = .map (some b_kn) | 6 => fun _ v => v = .pointer (some ⟨b30, 5, none⟩) | 7 => fun _ v => v = .slice (A27) ((d3.els).length) (cp28) | 8 => fun I v => ∃ p_ : Unit, v = .int .i64 (F_steps kn d3.els) ∧ True | 9 => fun _ v => v = .int .i64 (max (F_steps kn d3.body) (F_steps kn d3.els)) | 10 => fun _ v => v = .int .i64 (IntKind.i64.wrap ((IntKind.i64.wrap (v5_1 + 1)) + (max (F_steps kn d3.body) (F_steps kn d3.els)))) | _ => fun _ _ => False) mx rfl rfl ?_ (by repeat (first | exact trivial | refine ⟨rfl, ?_⟩)) (fun rg => ?_) (fun rg => ?_)
       ·
        rintro (_ | _ | _ | _ | _ | _ | _ | _ | _ | _ | _ | i) I1_ I2_ v l h
        · exact h
        · exact h
        · exact h
        · exact h
        · obtain ⟨p_, h1, h0⟩ := h; exact ⟨p_, h1, trivial⟩
        · exact h
        · exact h
        · exact h
        · obtain ⟨p_, h1, h0⟩ := h; exact ⟨p_, h1, trivial⟩
        · exact h
        · exact h
        · exact h
       ·
        refine ⟨?_, ?_, ?_, ?_, ?_, ?_, ?_, ?_, ?_, ?_, ?_, trivial⟩
        ·
         intro is E2 I2_ hle_ hb hd kk_
         obtain ⟨hb0, hb5, hb7, hb8, hb9, hb10, -⟩ := hb
         refine JJ.move rg rfl rfl hb5 (kk_ _ _ (.refl _) rfl)
        ·
         intro is E2 I2_ hle_ hb hd kk_
         obtain ⟨hb0, hb5, hb7, hb8, hb9, hb10, -⟩ := hb
         refine JJ.move rg rfl rfl hb0 (kk_ _ _ (.refl _) rfl)
        ·
         intro is E2 I2_ hle_ hb hd kk_
         obtain ⟨hb0, hb5, hb7, hb8, hb9, hb10, -⟩ := hb
         refine JJ.fieldAddr (a' := ⟨b30, 4, none⟩) fo35_4 rg rfl rfl hb7 rfl (kk_ _ _ (.refl _) rfl)
        ·
         intro is E2 I2_ hle_ hb hd kk_
         obtain ⟨hb0, hb5, hb7, hb8, hb9, hb10, -⟩ := hb
         obtain ⟨d2, v2, e2, g2, s2⟩ := hd 2 (by decide)
         cases e2
         subst s2
         refine JJ.loadL (v := .slice (A24) ((d3.body).length) (cp25)) ty23 0 rg rfl rfl g2 rfl rfl (kk_ _ _ (.refl _) rfl)
        ·
         intro is E2 I2_ hle_ hb hd kk_
         obtain ⟨hb0, hb5, hb7, hb8, hb9, hb10, -⟩ := hb
         obtain ⟨d1, v1, e1, g1, s1⟩ := hd 1 (by decide)
         cases e1
         subst s1
         obtain ⟨d3, v3, e3, g3, s3⟩ := hd 3 (by decide)
         cases e3
         subst s3
         (try dsimp only [List.set])
         refine JJ.call (Lr := [_]) bo43 rg rfl rfl rfl (evL_cons g1 (evL_cons g3 rfl)) (ih _ b_kn (kn) _ _ d3.body (hx26.mono hle_) (by first | assumption | omega | (simp; done)) (by first | assumption | omega) (by omega)) (fun h q => q.pull 1 rfl) fun p44 I45 hle46 hp43 => ?_
         exact JJ.res (h := kk_ _ _ hle46 ⟨(), rfl, trivial⟩) (k := fun h q => Sat.put (L := [_, (fun _ => True)]) 1 (by simp only [List.length_cons]; omega) q)
        ·
         intro is E2 I2_ hle_ hb hd kk_
         obtain ⟨hb0, hb5, hb7, hb8, hb9, hb10, -⟩ := hb
         refine JJ.move rg rfl rfl hb0 (kk_ _ _ (.refl _) rfl)
        ·
         intro is E2 I2_ hle_ hb hd kk_
         obtain ⟨hb0, hb5, hb7, hb8, hb9, hb10, -⟩ := hb
         refine JJ.fieldAddr (a' := ⟨b30, 5, none⟩) fo35_5 rg rfl rfl hb7 rfl (kk_ _ _ (.refl _) rfl)
        ·
         intro is E2 I2_ hle_ hb hd kk_
         obtain ⟨hb0, hb5, hb7, hb8, hb9, hb10, -⟩ := hb
         obtain ⟨d6, v6, e6, g6, s6⟩ := hd 6 (by decide)
         cases e6
         subst s6
         refine JJ.loadL (v := .slice (A27) ((d3.els).length) (cp28)) ty23 0 rg rfl rfl g6 rfl rfl (kk_ _ _ (.refl _) rfl)
        ·
         intro is E2 I2_ hle_ hb hd kk_
         obtain ⟨hb0, hb5, hb7, hb8, hb9, hb10, -⟩ := hb
         obtain ⟨d4, v4, e4, g4, s4⟩ := hd 4 (by decide)
         cases e4
         obtain ⟨_, rfl, _⟩ := s4
         obtain ⟨d5, v5, e5, g5, s5⟩ := hd 5 (by decide)
         cases e5
         subst s5
         obtain ⟨d7, v7, e7, g7, s7⟩ := hd 7 (by decide)
         cases e7
         subst s7
         (try dsimp only [List.set])
         refine JJ.call (Lr := [_]) bo43 rg rfl rfl rfl (evL_cons g5 (evL_cons g7 rfl)) (ih _ b_kn (kn) _ _ d3.els (hx29.mono hle_) (by first | assumption | omega | (simp; done)) (by first | assumption | omega) (by omega)) (fun h q => q.pull 1 rfl) fun p48 I49 hle50 hp47 => ?_
         exact JJ.res (h := kk_ _ _ hle50 ⟨(), rfl, trivial⟩) (k := fun h q => Sat.put (L := [_, (fun _ => True)]) 1 (by simp only [List.length_cons]; omega) q)
        ·
         intro is E2 I2_ hle_ hb hd kk_
         obtain ⟨hb0, hb5, hb7, hb8, hb9, hb10, -⟩ := hb
         obtain ⟨d4, v4, e4, g4, s4⟩ := hd 4 (by decide)
         cases e4
         obtain ⟨_, rfl, _⟩ := s4
         obtain ⟨d8, v8, e8, g8, s8⟩ := hd 8 (by decide)
         cases e8
         obtain ⟨_, rfl, _⟩ := s8
         refine JJ.maxInt rg rfl rfl g4 g8 (kk_ _ _ (.refl _) rfl)
        ·
         intro is E2 I2_ hle_ hb hd kk_
         obtain ⟨hb0, hb5, hb7, hb8, hb9, hb10, -⟩ := hb
         obtain ⟨d0, v0, e0, g0, s0⟩ := hd 0 (by decide)
         cases e0
         subst s0
         obtain ⟨d9, v9, e9, g9, s9⟩ := hd 9 (by decide)
         cases e9
         subst s9
         refine JJ.binI (z := IntKind.i64.wrap ((IntKind.i64.wrap (v5_1 + 1)) + (max (F_steps kn d3.body) (F_steps kn d3.els)))) rg rfl rfl g0 g9 rfl rfl (kk_ _ _ (.refl _) rfl)
       intro vs I52 hle51 hs_
       obtain ⟨hv0, hv1, hv2, hv3, hv4, hv5, hv6, hv7, hv8, hv9, hv10, -⟩ := hs_
       obtain ⟨_, hv4, _⟩ := hv4
       obtain ⟨_, hv8, _⟩ := hv8
       refine JJ.keep [(0, .map (some b_kn)), (5, .int .i64 (IntKind.i64.wrap (v5_1 + 1))), (8, .slice (A_l) ((l).length) (cp_l)), (9, .int .i64 ((((l).length : Nat) : Int))), (10, .int .i64 (((i2 : Nat) : Int))), (41, .int .i64 (IntKind.i64.wrap ((IntKind.i64.wrap (v5_1 + 1)) + (max (F_steps kn d3.body) (F_steps kn d3.els)))))] ⟨rfl, rfl, rfl, rfl, rfl, congrArg some hv10, trivial⟩ ?_
       refine JJ.assign rg rfl rfl rfl ?_
       refine JJ.regionEnd ?_
       refine JJ.keep _ ?_ (hk40 _ hle51)
       exact ⟨congrArg (fun z => some (Value.int .i64 z)) (by simp only [hc9b, xb0, xb1, xb2, xb3, xb4, xb5, xb6, xb7, xb8, xb9, xb10, xb11]), rfl, rfl, rfl, rfl, trivial⟩
      ·
       have hc9b := hc9
       replace hc9 := of_decide_eq_false hc9
       refine JJ.seq ?_
       refine JJ.region rfl fun rg => ?_
       refine JJ.bin rg rfl rfl rfl rfl rfl ?_
       refine JJ.assign rg rfl rfl rfl ?_
       refine JJ.regionEnd ?_
       refine JJ.cut (X := Hp) (fun _ => [(5, .int .i64 ((bif decide ((d3.op : Int) = 16) then IntKind.i64.wrap ((IntKind.i64.wrap (v5_1 + 1)) + (((d3.body).length : Nat) : Int)) else (bif decide ((d3.op : Int) = 15) then IntKind.i64.wrap ((IntKind.i64.wrap (v5_1 + 1)) + (IMap.get (kn) d3.s)) else IntKind.i64.wrap (v5_1 + 1))))), (0, .map (some b_kn)), (8, .slice (A_l) ((l).length) (cp_l)), (9, .int .i64 ((((l).length : Nat) : Int))), (10, .int .i64 (((i2 : Nat) : Int)))]) (fun x => x) (fun _ => [blk b30 (.cells ([.int .i64 (d3.op), .string (d3.s), .int .i64 (d3.n), .slice (A21) ((d3.e).length) (cp22), .slice (A24) ((d3.body).length) (cp25), .slice (A27) ((d3.els).length) (cp28), .bool (d3.commit)]).toArray 35), mapR b_kn (IMap.toS kn)]) (fun x => Hp.le (I4) x) (fun hk53 => ?_) ?_
       ·
        refine JJ.cond2 rfl (fun hc11 => ?_) (fun hc11 => ?_)
        ·
         have hc11b := hc11
         replace hc11 := of_decide_eq_true hc11
         refine JJ.region rfl fun rg => ?_
         refine JJ.move rg rfl rfl rfl ?_
         refine JJ.fieldAddr (a' := ⟨b30, 4, none⟩) fo35_4 rg rfl rfl rfl rfl ?_
         refine JJ.loadL (v := .slice (A24) ((d3.body).length) (cp25)) ty23 0 rg rfl rfl rfl rfl rfl ?_
         refine JJ.lenSlice ss23 rg rfl rfl rfl ?_
         refine JJ.binI (z := IntKind.i64.wrap ((IntKind.i64.wrap (v5_1 + 1)) + (((d3.body).length : Nat) : Int))) rg rfl rfl rfl rfl rfl rfl ?_
         refine JJ.assign rg rfl rfl rfl ?_
         refine JJ.regionEnd ?_
         refine JJ.keep _ ?_ (hk53 _ (.refl _))
         exact ⟨congrArg (fun z => some (Value.int .i64 z)) (by simp only [hc11b, xb0, xb1, xb2, xb3, xb4, xb5, xb6, xb7, xb8, xb9, xb10, xb11]), rfl, rfl, rfl, rfl, trivial⟩
        ·
         have hc11b := hc11
         replace hc11 := of_decide_eq_false hc11
         refine JJ.seq ?_
         refine JJ.region rfl fun rg => ?_
         refine JJ.bin rg rfl rfl rfl rfl rfl ?_
         refine JJ.assign rg rfl rfl rfl ?_
         refine JJ.regionEnd ?_
         refine JJ.cut (X := Hp) (fun _ => [(5, .int .i64 ((bif decide ((d3.op : Int) = 15) then IntKind.i64.wrap ((IntKind.i64.wrap (v5_1 + 1)) + (IMap.get (kn) d3.s)) else IntKind.i64.wrap (v5_1 + 1)))), (0, .map (some b_kn)), (8, .slice (A_l) ((l).length) (cp_l)), (9, .int .i64 ((((l).length : Nat) : Int))), (10, .int .i64 (((i2 : Nat) : Int)))]) (fun x => x) (fun _ => [blk b30 (.cells ([.int .i64 (d3.op), .string (d3.s), .int .i64 (d3.n), .slice (A21) ((d3.e).length) (cp22), .slice (A24) ((d3.body).length) (cp25), .slice (A27) ((d3.els).length) (cp28), .bool (d3.commit)]).toArray 35), mapR b_kn (IMap.toS kn)]) (fun x => Hp.le (I4) x) (fun hk56 => ?_) ?_
         ·
          refine JJ.cond2 rfl (fun hc13 => ?_) (fun hc13 => ?_)
          ·
           have hc13b := hc13
           replace hc13 := of_decide_eq_true hc13
           refine JJ.region rfl fun rg => ?_
           refine JJ.move rg rfl rfl rfl ?_
           refine JJ.move rg rfl rfl rfl ?_
           refine JJ.fieldAddr (a' := ⟨b30, 1, none⟩) fo35_1 rg rfl rfl rfl rfl ?_
           refine JJ.loadL (v := .string (d3.s)) ty9 0 rg rfl rfl rfl rfl rfl ?_
           refine JJ.lookupI sm92 zo3 1 rg rfl rfl rfl rfl rfl ?_
           refine JJ.binI (z := IntKind.i64.wrap ((IntKind.i64.wrap (v5_1 + 1)) + (IMap.get (kn) d3.s))) rg rfl rfl rfl rfl rfl rfl ?_
           refine JJ.assign rg rfl rfl rfl ?_
           refine JJ.regionEnd ?_
           refine JJ.keep _ ?_ (hk56 _ (.refl _))
           exact ⟨congrArg (fun z => some (Value.int .i64 z)) (by simp only [hc13b, xb0, xb1, xb2, xb3, xb4, xb5, xb6, xb7, xb8, xb9, xb10, xb11]), rfl, rfl, rfl, rfl, trivial⟩
          ·
           have hc13b := hc13
           replace hc13 := of_decide_eq_false hc13
           refine JJ.skip ?_
           refine JJ.keep _ ?_ (hk56 _ (.refl _))
           exact ⟨congrArg (fun z => some (Value.int .i64 z)) (by simp only [hc13b, xb0, xb1, xb2, xb3, xb4, xb5, xb6, xb7, xb8, xb9, xb10, xb11]), rfl, rfl, rfl, rfl, trivial⟩
         ·
          intro I57 hle58
          refine JJ.keep _ ?_ (hk53 _ hle58)
          exact ⟨congrArg (fun z => some (Value.int .i64 z)) (by simp only [hc11b, xb0, xb1, xb2, xb3, xb4, xb5, xb6, xb7, xb8, xb9, xb10, xb11]), rfl, rfl, rfl, rfl, trivial⟩
       ·
        intro I54 hle55
        refine JJ.keep _ ?_ (hk40 _ hle55)
        exact ⟨congrArg (fun z => some (Value.int .i64 z)) (by simp only [hc9b, xb0, xb1, xb2, xb3, xb4, xb5, xb6, xb7, xb8, xb9, xb10, xb11]), rfl, rfl, rfl, rfl, trivial⟩
     ·
      intro I41 hle42
      refine JJ.keep _ ?_ (hk31 _ hle42)
      exact ⟨congrArg (fun z => some (Value.int .i64 z)) (by simp only [hc7b, xb0, xb1, xb2, xb3, xb4, xb5, xb6, xb7, xb8, xb9, xb10, xb11]), rfl, rfl, rfl, rfl, trivial⟩
   ·
    intro I32 hle33
    refine JJ.inBlock ?_
    refine JJ.region rfl fun rg => ?_
    refine JJ.move rg rfl rfl rfl ?_
    refine JJ.minInt rg rfl rfl rfl rfl ?_
    refine JJ.assign rg rfl rfl rfl ?_
    refine JJ.regionEnd ?_
    refine JJ.inBlock ?_
    refine JJ.region rfl fun rg => ?_
    refine JJ.binI (z := ((i2 + 1 : Nat) : Int)) rg rfl rfl rfl rfl rfl (wrap_to (by omega) (by omega) (by omega)) ?_
    refine JJ.move rg rfl rfl rfl ?_
    refine JJ.regionEnd ?_
    refine JJ.drop ?_
    have hnx : F_steps_l0 kn l 0 = F_steps_l0 kn (List.drop (i2 + 1) l) (min ((bif decide ((d3.op : Int) = 14) then IntKind.i64.wrap ((IntKind.i64.wrap (v5_1 + 1)) + (IntKind.i64.wrap (d3.n * (F_steps kn d3.body)))) else (bif decide ((d3.op : Int) = 13) then IntKind.i64.wrap ((IntKind.i64.wrap (v5_1 + 1)) + (max (F_steps kn d3.body) (F_steps kn d3.els))) else (bif decide ((d3.op : Int) = 16) then IntKind.i64.wrap ((IntKind.i64.wrap (v5_1 + 1)) + (((d3.body).length : Nat) : Int)) else (bif decide ((d3.op : Int) = 15) then IntKind.i64.wrap ((IntKind.i64.wrap (v5_1 + 1)) + (IMap.get (kn) d3.s)) else IntKind.i64.wrap (v5_1 + 1)))))) 65537) := by rw [hsp6, hdr_i2]; simp only [F_steps_l0, xb0, xb1, xb2, xb3, xb4, xb5, xb6, xb7, xb8, xb9, xb10, xb11]
    refine JJ.keep _ ?_ (ih8 (i2 + 1, I32, min ((bif decide ((d3.op : Int) = 14) then IntKind.i64.wrap ((IntKind.i64.wrap (v5_1 + 1)) + (IntKind.i64.wrap (d3.n * (F_steps kn d3.body)))) else (bif decide ((d3.op : Int) = 13) then IntKind.i64.wrap ((IntKind.i64.wrap (v5_1 + 1)) + (max (F_steps kn d3.body) (F_steps kn d3.els))) else (bif decide ((d3.op : Int) = 16) then IntKind.i64.wrap ((IntKind.i64.wrap (v5_1 + 1)) + (((d3.body).length : Nat) : Int)) else (bif decide ((d3.op : Int) = 15) then IntKind.i64.wrap ((IntKind.i64.wrap (v5_1 + 1)) + (IMap.get (kn) d3.s)) else IntKind.i64.wrap (v5_1 + 1)))))) 65537) ⟨hlt_i2, (hle5.trans hle33), hnx⟩ (by dsimp only; omega))
    repeat (first | exact trivial | refine ⟨rfl, ?_⟩)
  ·
   have heq_i2 : i2 = (l).length := by omega
   have hdr_i2 : List.drop i2 l = [] := by rw [heq_i2]; exact List.drop_length
   refine JJ.seq ?_
   refine JJ.region rfl fun rg => ?_
   refine JJ.bin (v := .bool false) rg rfl rfl rfl rfl (congrArg (fun b => some (Value.bool b)) (decide_eq_false (by omega))) ?_
   refine JJ.regionEnd ?_
   refine JJ.seq ?_
   refine JJ.cond (b := false) rfl ?_
   refine JJ.exit rfl ?_
   have hE : F_steps_l0 kn l 0 = v5_1 := by rw [hsp6, hdr_i2]; simp only [F_steps_l0, xb0, xb1, xb2, xb3, xb4, xb5, xb6, xb7, xb8, xb9, xb10, xb11]
   refine JJ.keep _ ?_ (hk9 (I4, v5_1) ⟨hle5, hE⟩)
   repeat (first | exact trivial | refine ⟨rfl, ?_⟩)
 ·
  rintro ⟨I59, v5_1⟩ ⟨hle60, hE61⟩
  try dsimp only at hle60 hE61 ⊢
  refine JJ.seq ?_
  refine JJ.region rfl fun rg => ?_
  refine JJ.move rg rfl rfl rfl ?_
  refine JJ.assign rg rfl rfl rfl ?_
  refine JJ.regionEnd ?_
  have hF : F_steps kn l = v5_1 := by simp only [F_steps, hE61, xb0, xb1, xb2, xb3, xb4, xb5, xb6, xb7, xb8, xb9, xb10, xb11]
  refine JJ.ret1 rfl Try.func43 rfl rfl (fun h h_ => ⟨(), trivial, (by rw [hF]), (by first | exact h_ | (rw [hF]; exact h_))⟩)
theorem steps (I : Hp) (b_kn : Nat) (kn : IMap) (A_l : Option Addr) (cp_l : Nat) (l : List St) (h_l : RTs I A_l (l).length cp_l l) (n_l : (l).length ≤ 4294967296) (hz : St.szl l ≤ 4294967296) : Fn Try.prog 43 #[.map (some b_kn), .slice (A_l) ((l).length) (cp_l)] I [mapR b_kn (IMap.toS kn)] (Ret (X := Unit) (fun x_ I' => True) (fun x_ => .int .i64 (F_steps kn l)) fun _ => [mapR b_kn (IMap.toS kn)]) := steps_rec _ I b_kn kn A_l cp_l l h_l n_l hz (Nat.lt_succ_self _)
end Vb
end Go.Proofs.Ytlcdafeoionnhaa
