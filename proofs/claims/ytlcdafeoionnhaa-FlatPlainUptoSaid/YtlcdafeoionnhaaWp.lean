/- Walks of functions, printed by a program of this session (wip/tool/eng.py). -/
import Derived.Test.YtlcdafeoionnhaaProg
import Derived.Test.YtlcdafeoionnhaaFlat
import Derived.Test.YtlcdafeoionnhaaWo
namespace Go.Proofs.Ytlcdafeoionnhaa
open Go
set_option linter.unusedVariables false
set_option linter.unusedSimpArgs false
namespace Wp
theorem bo13 : bodyOk Try.prog 13 = true := by kernel_rfl
theorem bo14 : bodyOk Try.prog 14 = true := by kernel_rfl
theorem bo25 : bodyOk Try.prog 25 = true := by kernel_rfl
theorem bo26 : bodyOk Try.prog 26 = true := by kernel_rfl
theorem bo27 : bodyOk Try.prog 27 = true := by kernel_rfl
theorem bo28 : bodyOk Try.prog 28 = true := by kernel_rfl
theorem bo29 : bodyOk Try.prog 29 = true := by kernel_rfl
theorem bo44 : bodyOk Try.prog 44 = true := by kernel_rfl
theorem bo45 : bodyOk Try.prog 45 = true := by kernel_rfl
theorem eo23 : elemO Try.prog 23 = some (35, 7) := by kernel_rfl
theorem eo33 : elemO Try.prog 33 = some (53, 4) := by kernel_rfl
theorem fo35_0 : fieldO Try.prog 35 0 = some 0 := by kernel_rfl
theorem fo35_1 : fieldO Try.prog 35 1 = some 1 := by kernel_rfl
theorem fo35_2 : fieldO Try.prog 35 2 = some 2 := by kernel_rfl
theorem fo35_3 : fieldO Try.prog 35 3 = some 3 := by kernel_rfl
theorem fo35_4 : fieldO Try.prog 35 4 = some 4 := by kernel_rfl
theorem fo35_5 : fieldO Try.prog 35 5 = some 5 := by kernel_rfl
theorem fo47_0 : fieldO Try.prog 47 0 = some 0 := by kernel_rfl
theorem fo47_1 : fieldO Try.prog 47 1 = some 1 := by kernel_rfl
theorem fo47_2 : fieldO Try.prog 47 2 = some 2 := by kernel_rfl
theorem fo53_0 : fieldO Try.prog 53 0 = some 0 := by kernel_rfl
theorem fo53_2 : fieldO Try.prog 53 2 = some 2 := by kernel_rfl
theorem fo53_3 : fieldO Try.prog 53 3 = some 3 := by kernel_rfl
theorem fo97_0 : fieldO Try.prog 97 0 = some 0 := by kernel_rfl
theorem fo97_1 : fieldO Try.prog 97 1 = some 1 := by kernel_rfl
theorem fo97_2 : fieldO Try.prog 97 2 = some 2 := by kernel_rfl
theorem ft26_1 : fldT Try.prog 26 1 = some (23, 1) := by kernel_rfl
theorem io35 : infoO Try.prog 35 = some (.agg #[.int .i64 0, .string ⟨#[]⟩, .int .i64 0, .slice none 0 0, .slice none 0 0, .slice none 0 0, .bool false], 112) := by kernel_rfl
theorem mx : Try.prog.follows .mixedOrders = true := by kernel_rfl
theorem pp68 : isPtrT Try.prog 68 = true := by kernel_rfl
theorem sl23 : sliceOfT Try.prog 23 = true := by kernel_rfl
theorem sm42 : smapT Try.prog 42 = some 23 := by kernel_rfl
theorem so26 : structO Try.prog 26 = some [(0, 1), (1, 1), (2, 1), (3, 1)] := by kernel_rfl
theorem so35 : structO Try.prog 35 = some [(0, 1), (1, 1), (2, 1), (3, 1), (4, 1), (5, 1), (6, 1)] := by kernel_rfl
theorem so53 : structO Try.prog 53 = some [(0, 1), (1, 1), (2, 1), (3, 1)] := by kernel_rfl
theorem so97 : structO Try.prog 97 = some [(0, 1), (1, 1), (2, 1)] := by kernel_rfl
theorem ss23 : isSliceT Try.prog 23 = true := by kernel_rfl
theorem ss33 : isSliceT Try.prog 33 = true := by kernel_rfl
theorem ty2 : tyI Try.prog 2 = some (false, 1) := by kernel_rfl
theorem ty23 : tyI Try.prog 23 = some (false, 1) := by kernel_rfl
theorem ty3 : tyI Try.prog 3 = some (false, 1) := by kernel_rfl
theorem ty33 : tyI Try.prog 33 = some (false, 1) := by kernel_rfl
theorem ty35 : tyI Try.prog 35 = some (true, 7) := by kernel_rfl
theorem ty42 : tyI Try.prog 42 = some (false, 1) := by kernel_rfl
theorem ty45 : tyI Try.prog 45 = some (false, 1) := by kernel_rfl
theorem ty68 : tyI Try.prog 68 = some (false, 1) := by kernel_rfl
theorem ty9 : tyI Try.prog 9 = some (false, 1) := by kernel_rfl
theorem zo23 : zeroOf Try.prog 23 = some (.slice none 0 0) := by kernel_rfl
theorem zo26 : zeroOf Try.prog 26 = some (.agg #[.slice none 0 0, .slice none 0 0, .slice none 0 0, .slice none 0 0]) := by kernel_rfl
theorem zo35 : zeroOf Try.prog 35 = some (.agg #[.int .i64 0, .string ⟨#[]⟩, .int .i64 0, .slice none 0 0, .slice none 0 0, .slice none 0 0, .bool false]) := by kernel_rfl
theorem zo53 : zeroOf Try.prog 53 = some (.agg #[.int .i64 0, .int .i64 0, .string ⟨#[]⟩, .slice none 0 0]) := by kernel_rfl
theorem zo97 : zeroOf Try.prog 97 = some (.agg #[.string ⟨#[]⟩, .string ⟨#[]⟩, .pointer none]) := by kernel_rfl
open Vc
/-- A list of names behind a pointer. -/
def RK (I : Hp) : Option Addr → KN → Prop
  | p, [] => p = none
  | p, (o, f) :: r => ∃ a p', p = some a ∧ Row I a [.string o, .string f, .pointer p'] ∧ RK I p' r
theorem RK.mono {I I' : Hp} : ∀ {l : KN} {p : Option Addr}, RK I p l → I.le I' → RK I' p l
  | [], _, h, _ => h
  | _ :: _, _, ⟨a, p', e, r, h⟩, l => ⟨a, p', e, r.mono l, RK.mono h l⟩
theorem RK.nil {I : Hp} : RK I none [] := rfl
theorem RK.some {I : Hp} {p : Option Addr} {l : KN} (h : RK I p l) (hs : p.isSome = true) : ∃ o f r a p', l = (o, f) :: r ∧ p = some a ∧ Row I a [.string o, .string f, .pointer p'] ∧ RK I p' r := by
  cases l with
  | nil => rw [show p = none from h] at hs; cases hs
  | cons x r => obtain ⟨o, f⟩ := x; obtain ⟨a, p', e, hr, h⟩ := h; exact ⟨o, f, r, a, p', rfl, e, hr, h⟩
theorem RK.none {I : Hp} {p : Option Addr} {l : KN} (h : RK I p l) (hs : p.isSome = false) : l = [] := by
  cases l with
  | nil => rfl
  | cons x r => obtain ⟨o, f⟩ := x; obtain ⟨a, p', e, hr, h⟩ := h; rw [e] at hs; cases hs
set_option maxHeartbeats 4000000 in
theorem find (I : Hp) (p_kn : Option Addr) (kn : KN) (h_kn : RK I p_kn kn) (s : ByteArray) : Fn Try.prog 44 #[.pointer (p_kn), .string (s)] I [] (Ret (X := Unit) (fun x_ I' => True) (fun x_ => .tuple #[.string ((findK kn s).1), .bool ((findK kn s).2)]) fun _ => []) := by
 refine Fn.of (args := [_, _]) Try.func44 rfl rfl ?_
 refine JJ.seq ?_
 refine JJ.region rfl fun rg => ?_
 refine JJ.assign rg rfl rfl rfl ?_
 refine JJ.assign rg rfl rfl rfl ?_
 refine JJ.regionEnd ?_
 refine JJ.seq ?_
 refine JJ.block ?_
 refine JJ.induct (X := Option Addr × KN) (fun z => [(0, .pointer z.1), (1, .string s)]) (fun _ => I) (fun _ => [])
  (fun z => RK I z.1 z.2 ∧ findK kn s = findK z.2 s) (fun z => z.2.length) (p_kn, kn) ⟨h_kn, rfl⟩ (fun h => JJ.keep _ (by repeat (first | exact trivial | refine ⟨rfl, ?_⟩)) h) ?_
 rintro ⟨p, l⟩ ⟨hk, hf⟩ ih
 dsimp only at hk hf ih ⊢
 refine JJ.seq ?_
 refine JJ.seq ?_
 refine JJ.region rfl fun rg => ?_
 refine JJ.move rg rfl rfl rfl ?_
 refine JJ.ptrNe pp68 rg rfl rfl rfl rfl ?_
 refine JJ.regionEnd ?_
 refine JJ.cond2 rfl (fun hc1 => ?_) (fun hc1 => ?_)
 ·
  have hc1b := hc1
  obtain ⟨o, f, r, a, p2, rfl, rfl, hrow, hr⟩ := RK.some hk hc1b
  refine JJ.skip ?_
  refine JJ.seq ?_
  refine JJ.block ?_
  refine JJ.seq ?_
  refine JJ.region rfl fun rg => ?_
  refine JJ.move rg rfl rfl rfl ?_
  refine JJ.nilCheck rg rfl rfl rfl ?_
  refine JJ.fieldAddr (a' := (a).add 0) fo97_0 rg rfl rfl rfl rfl ?_
  refine JJ.loadI (v := .string (o)) ty9 rg rfl rfl rfl (Row.drop hrow 0) rfl ?_
  refine JJ.move rg rfl rfl rfl ?_
  refine JJ.bin rg rfl rfl rfl rfl rfl ?_
  refine JJ.regionEnd ?_
  refine JJ.cond2 rfl (fun hc3 => ?_) (fun hc3 => ?_)
  ·
   have hc3b := hc3
   replace hc3 := of_decide_eq_true hc3
   refine JJ.seq ?_
   refine JJ.region rfl fun rg => ?_
   refine JJ.move rg rfl rfl rfl ?_
   refine JJ.nilCheck rg rfl rfl rfl ?_
   refine JJ.fieldAddr (a' := (a).add 1) fo97_1 rg rfl rfl rfl rfl ?_
   refine JJ.loadI (v := .string (f)) ty9 rg rfl rfl rfl (Row.drop hrow 1) rfl ?_
   refine JJ.assign rg rfl rfl rfl ?_
   refine JJ.assign rg rfl rfl rfl ?_
   refine JJ.regionEnd ?_
   have hF : findK kn s = (f, true) := by rw [hf, findK]; rw [decide_eq_true hc3]; rfl
   refine JJ.ret2 rfl Try.func44 rfl rfl rfl (fun h h_ => ⟨(), trivial, (by rw [hF]), trivial⟩)
  ·
   have hc3b := hc3
   replace hc3 := of_decide_eq_false hc3
   refine JJ.skip ?_
   refine JJ.inBlock ?_
   refine JJ.region rfl fun rg => ?_
   refine JJ.move rg rfl rfl rfl ?_
   refine JJ.nilCheck rg rfl rfl rfl ?_
   refine JJ.fieldAddr (a' := (a).add 2) fo97_2 rg rfl rfl rfl rfl ?_
   refine JJ.loadI (v := .pointer (p2)) ty68 rg rfl rfl rfl (Row.drop hrow 2) rfl ?_
   refine JJ.assign rg rfl rfl rfl ?_
   refine JJ.regionEnd ?_
   refine JJ.keep _ ?_ (ih (p2, r) ⟨hr, by rw [hf, findK, decide_eq_false hc3]; rfl⟩ (by simp))
   repeat (first | exact trivial | refine ⟨rfl, ?_⟩)
 ·
  have hc1b := hc1
  obtain rfl := RK.none hk hc1b
  refine JJ.exit rfl ?_
  refine JJ.seq ?_
  refine JJ.region rfl fun rg => ?_
  refine JJ.move rg rfl rfl rfl ?_
  refine JJ.assign rg rfl rfl rfl ?_
  refine JJ.assign rg rfl rfl rfl ?_
  refine JJ.regionEnd ?_
  have hF : findK kn s = (s, false) := by rw [hf, findK]
  refine JJ.ret2 rfl Try.func44 rfl rfl rfl (fun h h_ => ⟨(), trivial, (by rw [hF]), trivial⟩)
theorem fl_get {sz : Nat} {css : List (List Value)} {c : List Value} {i j : Nat} {v : Value} (hall : ∀ c ∈ css, c.length = sz) (hc : css[i]? = some c) (hv : c[j]? = some v) : ldV false 1 (css.flatten.drop (i * sz + j)) = some v := by
  have h := flatten_get css hall i c hc j v hv
  have h2 : (css.flatten.drop (i * sz + j))[0]? = some v := by rw [List.getElem?_drop]; exact h
  unfold ldV
  cases e : css.flatten.drop (i * sz + j) with
  | nil => rw [e] at h2; cases h2
  | cons a l => rw [e] at h2; simpa using h2
theorem fl_put {sz : Nat} : ∀ {css : List (List Value)} {c : List Value} {i j : Nat} {v : Value}, (∀ c ∈ css, c.length = sz) → css[i]? = some c → j < sz → css.flatten.take (i * sz + j) ++ [v] ++ css.flatten.drop (i * sz + j + 1) = (css.set i (c.set j v)).flatten
  | [], _, _, _, _, _, h, _ => by simp at h
  | a :: css, c, 0, j, v, hall, hc, hj => by
    simp at hc; subst hc
    have ha := hall a (by simp)
    simp only [Nat.zero_mul, Nat.zero_add, List.flatten_cons, List.set_cons_zero]
    rw [List.take_append_of_le_length (by omega), List.drop_append_of_le_length (by omega), List.set_eq_take_append_cons_drop, if_pos (by omega)]
    simp
  | a :: css, c, i + 1, j, v, hall, hc, hj => by
    have ha := hall a (by simp)
    have ih := fl_put (css := css) (i := i) (c := c) (j := j) (v := v) (fun x hx => hall x (by simp [hx])) (by simpa using hc) hj
    simp only [List.flatten_cons, List.set_cons_succ]
    rw [← ih, show (i + 1) * sz + j = a.length + (i * sz + j) from by rw [ha, Nat.add_mul]; omega]
    rw [List.take_append, List.take_of_length_le (by omega), show a.length + (i * sz + j) - a.length = i * sz + j from by omega, show a.length + (i * sz + j) + 1 = a.length + (i * sz + j + 1) from by omega, List.drop_append, List.drop_of_length_le (by omega), show a.length + (i * sz + j + 1) - a.length = i * sz + j + 1 from by omega]
    simp
theorem OSl.some {α : Type} {O : List Value → α → HP} {e : TypeId} {sz : Nat} {A : Option Addr} {n cp : Nat} {ds : List α} {c : Cx} {K : List Item} {E : List (Nat × Value)} {D : List Deferred} {I : Hp} {L : List HP} (h0 : 0 < n)
    (h : ∀ g, A = some ⟨g, 0, none⟩ → n ≤ cp → JJ c K E D I (OSl O e sz A n cp ds :: L)) : JJ c K E D I (OSl O e sz A n cp ds :: L) := by
  refine fun a w hh k hE hS hR => ?_
  obtain ⟨h1, h2, _, _, _, ⟨css, _, _, _, h3, h4, _, _, _, ⟨_, ho⟩, _⟩, _⟩ := id hS
  rcases ho with ⟨_, rfl, _⟩ | ⟨g, cur, rfl, _, hn, _⟩
  · omega
  · exact h g rfl hn a w hh k hE hS hR
theorem JJ.exE {te k : Nat} {cs : List Value} {x : Ex} {c : Cx} {K : List Item} {E : List (Nat × Value)} {D : List Deferred} {I : Hp} {L : List HP} (h : ∀ k' A cp, k = k' + 1 → cs = [.int .i64 x.op, .int .i64 x.n, .string x.s, .slice A x.x.length cp] → JJ c K E D I (OSl (OE te k') te 4 A x.x.length cp x.x :: L)) : JJ c K E D I (OE te k cs x :: L) := by
  cases k with
  | zero => exact fun a w hh kk hE ⟨_, _, _, _, _, hf, _⟩ hR => hf.elim
  | succ k' => exact fun a w hh kk hE ⟨h1, h2, l1, l2, d, ⟨A, cp, he, ho⟩, hL⟩ hR => h k' A cp rfl he a w hh kk hE ⟨h1, h2, l1, l2, d, ho, hL⟩ hR
theorem take_ren {f : Ex → Ex} {l : List Ex} {j : Nat} {y : Ex} (hy : l[j]? = Option.some y) : ((l.take j).map f ++ l.drop j).set j (f y) = (l.take (j + 1)).map f ++ l.drop (j + 1) := by
  obtain ⟨hlt, rfl⟩ := List.getElem?_eq_some_iff.1 hy
  have hl : ((l.take j).map f).length = j := by simp; omega
  rw [List.set_append_right _ _ (by omega), hl, Nat.sub_self, List.drop_eq_getElem_cons hlt, List.set_cons_zero, List.take_succ_eq_append_getElem hlt]
  simp only [List.map_append, List.map_cons, List.map_nil, List.append_assoc, List.cons_append, List.nil_append]
theorem get_ren {f : Ex → Ex} {l : List Ex} {j : Nat} {y : Ex} (hy : l[j]? = Option.some y) : ((l.take j).map f ++ l.drop j)[j]? = Option.some y := by
  obtain ⟨hlt, rfl⟩ := List.getElem?_eq_some_iff.1 hy
  have hl : ((l.take j).map f).length = j := by simp; omega
  rw [List.getElem?_append_right (by omega), hl, Nat.sub_self, List.drop_eq_getElem_cons hlt]; rfl
def RenOk (N : Nat) : Prop := ∀ (I : Hp) (p : Option Addr) (kn : KN) (k g cp i : Nat) (l : List Ex) (x : Ex), RK I p kn → l[i]? = Option.some x → x.sz ≤ 4294967296 → x.sz < N → Fn Try.prog 28 #[.pointer p, .pointer (Option.some ⟨g, i * 4, none⟩)] I [OSl (OE 53 k) 53 4 (Option.some ⟨g, 0, none⟩) l.length cp l] (Ret (X := Unit) (fun _ _ => True) (fun _ => .tuple #[]) fun _ => [OSl (OE 53 k) 53 4 (Option.some ⟨g, 0, none⟩) l.length cp (l.set i (x.ren kn))])
set_option maxHeartbeats 4000000 in
theorem ren : ∀ N, RenOk N := by
 intro N
 induction N with
 | zero => intro I p kn k g cp i l x _ _ _ h; exact absurd h (by omega)
 | succ N ih =>
 intro I p kn k g cp i l x hk hx hz hN
 have hy := x.sz_eq
 have hll := Ex.szl_len x.x
 show Fn _ _ [_, _].toArray _ _ _
 refine Fn.of (args := [_, _]) Try.func28 rfl rfl ?_
 refine OSl.elim fun css hn hcl hc => ?_
 obtain ⟨c, hci⟩ : ∃ c, css[i]? = Option.some c := ⟨_, List.getElem?_eq_getElem (by have := (List.getElem?_eq_some_iff.1 hx).1; omega)⟩
 refine JJ.pull 1 rfl rfl ?_
 refine JJ.res (fun h q => zO.take hci hx q) ?_
 refine JJ.exE fun k2 A cp2 hk2 hcc => ?_
 subst hk2 hcc
 refine JJ.pull 2 rfl rfl ?_
 have hall : ∀ c ∈ css, c.length = 4 := fun c h => (hc c h).1
 have hlt := (List.getElem?_eq_some_iff.1 hx).1
 refine JJ.seq ?_
 refine JJ.seq ?_
 refine JJ.region rfl fun rg => ?_
 refine JJ.move rg rfl rfl rfl ?_
 refine JJ.nilCheck rg rfl rfl rfl ?_
 refine JJ.fieldAddr (a' := ⟨g, i * 4 + 0, none⟩) fo53_0 rg rfl rfl rfl rfl ?_
 refine JJ.loadOwn (v := .int .i64 (x.op)) ty3 0 rg rfl rfl rfl rfl (fl_get (j := 0) hall hci rfl) ?_
 refine JJ.bin rg rfl rfl rfl rfl rfl ?_
 refine JJ.regionEnd ?_
 refine JJ.cond2 rfl (fun hc0 => ?_) (fun hc0 => ?_)
 ·
  have hc0b := hc0
  replace hc0 := of_decide_eq_true hc0
  have hs2 : (bif decide (x.op = 4) then (findK kn x.s).1 else x.s) = (findK kn x.s).1 := by rw [decide_eq_true hc0]; rfl
  refine JJ.region rfl fun rg => ?_
  refine JJ.move rg rfl rfl rfl ?_
  refine JJ.move rg rfl rfl rfl ?_
  refine JJ.move rg rfl rfl rfl ?_
  refine JJ.nilCheck rg rfl rfl rfl ?_
  refine JJ.fieldAddr (a' := ⟨g, i * 4 + 2, none⟩) fo53_2 rg rfl rfl rfl rfl ?_
  refine JJ.loadOwn (v := .string (x.s)) ty9 0 rg rfl rfl rfl rfl (fl_get (j := 2) hall hci rfl) ?_
  refine JJ.callp bo44 rg rfl rfl rfl rfl (find _ _ kn hk x.s ) fun _ I3 hle4 _ => ?_
  refine JJ.move rg rfl rfl rfl ?_
  refine JJ.extract rg rfl rfl rfl rfl ?_
  refine JJ.extract rg rfl rfl rfl rfl ?_
  refine JJ.nilCheck rg rfl rfl rfl ?_
  refine JJ.fieldAddr (a' := ⟨g, i * 4 + 2, none⟩) fo53_2 rg rfl rfl rfl rfl ?_
  refine JJ.storeOwn (vs := [.string (findK kn x.s).1]) ty9 0 rg rfl rfl rfl rfl rfl rfl rfl (by simp [Value.oneCell']) (by rw [flatten_length css hall, hcl]; simp only [List.length_cons, List.length_nil]; omega) ?_
  dsimp only [List.set]
  rw [show [Value.string (findK kn x.s).1].length = 1 from rfl, fl_put (j := 2) hall hci (by omega)]
  dsimp only [List.set]
  generalize hcss2 : css.set i [Value.int .i64 x.op, .int .i64 x.n, .string (findK kn x.s).1, .slice A x.x.length cp2] = css2
  have hci2 : css2[i]? = Option.some [.int .i64 x.op, .int .i64 x.n, .string (findK kn x.s).1, .slice A x.x.length cp2] := by rw [← hcss2, List.getElem?_set_self (by omega)]
  have hall2 : ∀ c ∈ css2, c.length = 4 := by rw [← hcss2]; intro c h; rcases List.mem_or_eq_of_mem_set h with h | h; exact hall c h; rw [h]; rfl
  refine JJ.regionEnd ?_
  refine JJ.seq ?_
  refine JJ.region rfl fun rg => ?_
  refine JJ.move rg rfl rfl rfl ?_
  refine JJ.nilCheck rg rfl rfl rfl ?_
  refine JJ.fieldAddr (a' := ⟨g, i * 4 + 3, none⟩) fo53_3 rg rfl rfl rfl rfl ?_
  refine JJ.loadOwn (v := .slice (A) (x.x.length) (cp2)) ty33 0 rg rfl rfl rfl rfl (fl_get (j := 3) hall2 hci2 rfl) ?_
  refine JJ.lenSlice ss33 rg rfl rfl rfl ?_
  refine JJ.move rg rfl rfl rfl ?_
  refine JJ.regionEnd ?_
  refine JJ.block ?_
  refine JJ.induct (X := Nat × Hp) (fun z => [(0, .pointer p), (1, .pointer (Option.some ⟨g, i * 4, none⟩)), (26, .int .i64 ((x.x.length : Nat) : Int)), (27, .int .i64 ((z.1 : Nat) : Int))]) (fun z => z.2) (fun z => [own 53 4 (Option.some ⟨g, 0, none⟩) (l.length) (cp) (css2.flatten), OSl (OE 53 k2) 53 4 A x.x.length cp2 ((x.x.take z.1).map (Ex.ren kn) ++ x.x.drop z.1), zX (OE 53 (k2 + 1)) css l i])
   (fun z => z.1 ≤ x.x.length ∧ Hp.le I3 z.2) (fun z => x.x.length - z.1) (0, I3) ⟨Nat.zero_le _, .refl _⟩ (fun h => JJ.keep _ (by repeat (first | exact trivial | refine ⟨rfl, ?_⟩)) h) ?_
  rintro ⟨j, I1⟩ ⟨hj, hle⟩ ihl
  dsimp only at hj hle ihl ⊢
  refine JJ.seq ?_
  refine JJ.region rfl fun rg => ?_
  refine JJ.bin rg rfl rfl rfl rfl rfl ?_
  refine JJ.regionEnd ?_
  refine JJ.seq ?_
  refine JJ.cond2 rfl (fun hc3 => ?_) (fun hc3 => ?_)
  ·
   have hc3b := hc3
   replace hc3 := of_decide_eq_true hc3
   have hlt2 : j < x.x.length := by omega
   obtain ⟨y, hy⟩ : ∃ y, x.x[j]? = Option.some y := ⟨_, List.getElem?_eq_getElem hlt2⟩
   have hyz := Ex.szl_mem (List.mem_of_getElem? hy)
   refine JJ.skip ?_
   refine JJ.seq ?_
   refine JJ.block ?_
   refine JJ.seq ?_
   refine JJ.region rfl fun rg => ?_
   refine JJ.move rg rfl rfl rfl ?_
   refine JJ.assign rg rfl rfl rfl ?_
   refine JJ.regionEnd ?_
   refine JJ.region rfl fun rg => ?_
   refine JJ.move rg rfl rfl rfl ?_
   refine JJ.move rg rfl rfl rfl ?_
   refine JJ.nilCheck rg rfl rfl rfl ?_
   refine JJ.fieldAddr (a' := ⟨g, i * 4 + 3, none⟩) fo53_3 rg rfl rfl rfl rfl ?_
   refine JJ.loadOwn (v := .slice (A) (x.x.length) (cp2)) ty33 0 rg rfl rfl rfl rfl (fl_get (j := 3) hall2 hci2 rfl) ?_
   refine JJ.move rg rfl rfl rfl ?_
   refine JJ.pull 1 rfl rfl ?_
   refine OSl.some (by omega) fun g2 hA2 hcp2 => ?_
   refine JJ.pull 1 rfl rfl ?_
   refine JJ.indexAddrA hA2 (a' := ⟨g2, j * 4, none⟩) eo33 rg rfl rfl rfl rfl (by omega) (by omega) (by rw [Addr.add_lit]; simp) ?_
   subst hA2
   refine JJ.pull 1 rfl rfl ?_
   have hrec := ih _ p kn k2 g2 cp2 j ((x.x.take j).map (Ex.ren kn) ++ x.x.drop j) y (hk.mono (hle4.trans hle)) (get_ren hy) (by omega) (by omega)
   rw [take_ren hy, show ((x.x.take j).map (Ex.ren kn) ++ x.x.drop j).length = x.x.length from by simp; omega] at hrec
   refine JJ.call (Lc := [_]) (Lr := [_, _]) bo28 rg rfl rfl rfl rfl hrec (fun _ q => q) fun _ I5 hle6 _ => ?_
   dsimp only [List.cons_append, List.nil_append]
   refine JJ.pull 1 rfl rfl ?_
   refine JJ.regionEnd ?_
   refine JJ.inBlock ?_
   refine JJ.region rfl fun rg => ?_
   refine JJ.binI (z := ((j + 1 : Nat) : Int)) rg rfl rfl rfl rfl rfl (wrap_to (by omega) (by omega) (by omega)) ?_
   refine JJ.move rg rfl rfl rfl ?_
   refine JJ.regionEnd ?_
   refine JJ.keep _ ?_ (ihl (j + 1, _) ⟨hlt2, (hle.trans hle6)⟩ (by dsimp only; omega))
   repeat (first | exact trivial | refine ⟨rfl, ?_⟩)
  ·
   have hc3b := hc3
   replace hc3 := of_decide_eq_false hc3
   obtain rfl : j = x.x.length := by omega
   rw [List.take_length, List.drop_length, List.append_nil]
   refine JJ.exit rfl ?_
   refine JJ.pull 1 rfl rfl ?_
   refine JJ.res (L' := [OE 53 (k2 + 1) [.int .i64 x.op, .int .i64 x.n, .string (findK kn x.s).1, .slice A x.x.length cp2] (x.ren kn), own 53 4 (Option.some ⟨g, 0, none⟩) (l.length) (cp) (css2.flatten), zX (OE 53 (k2 + 1)) css l i]) (fun h q => ?_) ?_
   · exact let ⟨h1, h2, a, b, c, d, e⟩ := q; ⟨h1, h2, a, b, c, ⟨A, cp2, by rw [Ex.ren_eq, hs2]; simp [Ex.op, Ex.n, Ex.s, Ex.x], by rw [Ex.ren_eq]; simpa [Ex.x] using d⟩, e⟩
   refine JJ.pull 2 rfl rfl ?_
   refine JJ.pull 1 rfl rfl ?_
   refine JJ.res (fun h q => zO.put (by omega) hlt q) ?_
   rw [hcss2]
   refine JJ.pull 1 rfl rfl ?_
   exact JJ.end0 rfl Try.func28 rfl (fun h q => ⟨(), trivial, rfl, OSl.intro (by simp) (by rw [← hcss2]; simp [hcl]) (by rw [← hcss2]; intro c h; rcases List.mem_or_eq_of_mem_set h with h | h; exact hc c h; subst h; exact ⟨rfl, by simp [Value.oneCell']⟩) q⟩)
 ·
  have hc0b := hc0
  replace hc0 := of_decide_eq_false hc0
  have hcss2 : css.set i [Value.int .i64 x.op, .int .i64 x.n, .string x.s, .slice A x.x.length cp2] = css := by refine List.ext_getElem? fun q => ?_; by_cases hq : i = q; subst hq; rw [List.getElem?_set_self (by omega), hci]; rw [List.getElem?_set_ne hq]
  have hs2 : (bif decide (x.op = 4) then (findK kn x.s).1 else x.s) = x.s := by rw [decide_eq_false hc0]; rfl
  refine JJ.skip ?_
  refine JJ.seq ?_
  refine JJ.region rfl fun rg => ?_
  refine JJ.move rg rfl rfl rfl ?_
  refine JJ.nilCheck rg rfl rfl rfl ?_
  refine JJ.fieldAddr (a' := ⟨g, i * 4 + 3, none⟩) fo53_3 rg rfl rfl rfl rfl ?_
  refine JJ.loadOwn (v := .slice (A) (x.x.length) (cp2)) ty33 0 rg rfl rfl rfl rfl (fl_get (j := 3) hall hci rfl) ?_
  refine JJ.lenSlice ss33 rg rfl rfl rfl ?_
  refine JJ.move rg rfl rfl rfl ?_
  refine JJ.regionEnd ?_
  refine JJ.block ?_
  refine JJ.induct (X := Nat × Hp) (fun z => [(0, .pointer p), (1, .pointer (Option.some ⟨g, i * 4, none⟩)), (26, .int .i64 ((x.x.length : Nat) : Int)), (27, .int .i64 ((z.1 : Nat) : Int))]) (fun z => z.2) (fun z => [own 53 4 (Option.some ⟨g, 0, none⟩) (l.length) (cp) (css.flatten), OSl (OE 53 k2) 53 4 A x.x.length cp2 ((x.x.take z.1).map (Ex.ren kn) ++ x.x.drop z.1), zX (OE 53 (k2 + 1)) css l i])
   (fun z => z.1 ≤ x.x.length ∧ Hp.le I z.2) (fun z => x.x.length - z.1) (0, I) ⟨Nat.zero_le _, .refl _⟩ (fun h => JJ.keep _ (by repeat (first | exact trivial | refine ⟨rfl, ?_⟩)) h) ?_
  rintro ⟨j, I1⟩ ⟨hj, hle⟩ ihl
  dsimp only at hj hle ihl ⊢
  refine JJ.seq ?_
  refine JJ.region rfl fun rg => ?_
  refine JJ.bin rg rfl rfl rfl rfl rfl ?_
  refine JJ.regionEnd ?_
  refine JJ.seq ?_
  refine JJ.cond2 rfl (fun hc3 => ?_) (fun hc3 => ?_)
  ·
   have hc3b := hc3
   replace hc3 := of_decide_eq_true hc3
   have hlt2 : j < x.x.length := by omega
   obtain ⟨y, hy⟩ : ∃ y, x.x[j]? = Option.some y := ⟨_, List.getElem?_eq_getElem hlt2⟩
   have hyz := Ex.szl_mem (List.mem_of_getElem? hy)
   refine JJ.skip ?_
   refine JJ.seq ?_
   refine JJ.block ?_
   refine JJ.seq ?_
   refine JJ.region rfl fun rg => ?_
   refine JJ.move rg rfl rfl rfl ?_
   refine JJ.assign rg rfl rfl rfl ?_
   refine JJ.regionEnd ?_
   refine JJ.region rfl fun rg => ?_
   refine JJ.move rg rfl rfl rfl ?_
   refine JJ.move rg rfl rfl rfl ?_
   refine JJ.nilCheck rg rfl rfl rfl ?_
   refine JJ.fieldAddr (a' := ⟨g, i * 4 + 3, none⟩) fo53_3 rg rfl rfl rfl rfl ?_
   refine JJ.loadOwn (v := .slice (A) (x.x.length) (cp2)) ty33 0 rg rfl rfl rfl rfl (fl_get (j := 3) hall hci rfl) ?_
   refine JJ.move rg rfl rfl rfl ?_
   refine JJ.pull 1 rfl rfl ?_
   refine OSl.some (by omega) fun g2 hA2 hcp2 => ?_
   refine JJ.pull 1 rfl rfl ?_
   refine JJ.indexAddrA hA2 (a' := ⟨g2, j * 4, none⟩) eo33 rg rfl rfl rfl rfl (by omega) (by omega) (by rw [Addr.add_lit]; simp) ?_
   subst hA2
   refine JJ.pull 1 rfl rfl ?_
   have hrec := ih _ p kn k2 g2 cp2 j ((x.x.take j).map (Ex.ren kn) ++ x.x.drop j) y (hk.mono hle) (get_ren hy) (by omega) (by omega)
   rw [take_ren hy, show ((x.x.take j).map (Ex.ren kn) ++ x.x.drop j).length = x.x.length from by simp; omega] at hrec
   refine JJ.call (Lc := [_]) (Lr := [_, _]) bo28 rg rfl rfl rfl rfl hrec (fun _ q => q) fun _ I7 hle8 _ => ?_
   dsimp only [List.cons_append, List.nil_append]
   refine JJ.pull 1 rfl rfl ?_
   refine JJ.regionEnd ?_
   refine JJ.inBlock ?_
   refine JJ.region rfl fun rg => ?_
   refine JJ.binI (z := ((j + 1 : Nat) : Int)) rg rfl rfl rfl rfl rfl (wrap_to (by omega) (by omega) (by omega)) ?_
   refine JJ.move rg rfl rfl rfl ?_
   refine JJ.regionEnd ?_
   refine JJ.keep _ ?_ (ihl (j + 1, _) ⟨hlt2, (hle.trans hle8)⟩ (by dsimp only; omega))
   repeat (first | exact trivial | refine ⟨rfl, ?_⟩)
  ·
   have hc3b := hc3
   replace hc3 := of_decide_eq_false hc3
   obtain rfl : j = x.x.length := by omega
   rw [List.take_length, List.drop_length, List.append_nil]
   refine JJ.exit rfl ?_
   refine JJ.pull 1 rfl rfl ?_
   refine JJ.res (L' := [OE 53 (k2 + 1) [.int .i64 x.op, .int .i64 x.n, .string x.s, .slice A x.x.length cp2] (x.ren kn), own 53 4 (Option.some ⟨g, 0, none⟩) (l.length) (cp) (css.flatten), zX (OE 53 (k2 + 1)) css l i]) (fun h q => ?_) ?_
   · exact let ⟨h1, h2, a, b, c, d, e⟩ := q; ⟨h1, h2, a, b, c, ⟨A, cp2, by rw [Ex.ren_eq, hs2]; simp [Ex.op, Ex.n, Ex.s, Ex.x], by rw [Ex.ren_eq]; simpa [Ex.x] using d⟩, e⟩
   refine JJ.pull 2 rfl rfl ?_
   refine JJ.pull 1 rfl rfl ?_
   refine JJ.res (fun h q => zO.put (by omega) hlt q) ?_
   rw [hcss2]
   refine JJ.pull 1 rfl rfl ?_
   exact JJ.end0 rfl Try.func28 rfl (fun h q => ⟨(), trivial, rfl, OSl.intro (by simp) (by simp [hcl]) (by exact hc) q⟩)
/-- The walk in memory. -/
abbrev wk (b pm : Nat) (w : WS) : HP := blk b (.cells [Value.map (Option.some pm), .int .i64 w.left, .int .i64 w.vars].toArray 47)
theorem decs_len : ∀ (f u : Nat) (acc : List UInt8), (decs f u acc).length ≤ f + acc.length
  | 0, _, acc => by simp [decs]
  | f + 1, u, acc => by
    unfold decs
    split
    · simp only [List.length_cons]; omega
    · have := decs_len f (u / 10) (UInt8.ofNat (48 + u % 10) :: acc)
      simp only [List.length_cons] at this; omega
theorem digS_size (n : Int) : (digS n).size ≤ 21 := by
  have h := decs_len 20 n.natAbs []
  simp only [List.length_nil] at h
  show (digL n).toArray.size ≤ 21
  unfold digL
  cases decide (n < 0) <;> simp <;> omega
set_option maxHeartbeats 4000000 in
theorem let_ (I : Hp) (p : Option Addr) (kn : KN) (hk : RK I p kn) (bw pm : Nat) (w : WS) (bs : Nat) (c0 c2 c3 c4 c5 c6 : Value) (s : ByteArray) (h0 : -9223372036854775808 ≤ w.vars) (hn : w.vars ≤ 9223372036854775807) : Fn Try.prog 29 #[.pointer (Option.some ⟨bw, 0, none⟩), .pointer (Option.some ⟨bs, 0, none⟩), .pointer p] I [wk bw pm w, blk bs (.cells [c0, .string s, c2, c3, c4, c5, c6].toArray 35)] (Ret (X := Option Addr) (fun p I => RK I p (letK kn s w.vars).2.1) (fun p => .pointer p) fun _ => [wk bw pm ⟨w.left, (letK kn s w.vars).2.2⟩, blk bs (.cells [c0, .string (letK kn s w.vars).1, c2, c3, c4, c5, c6].toArray 35)]) := by
 refine Fn.of (args := [_, _, _]) Try.func29 rfl rfl ?_
 refine JJ.seq ?_
 refine JJ.region rfl fun rg => ?_
 refine JJ.assign rg rfl rfl rfl ?_
 refine JJ.regionEnd ?_
 refine JJ.seq ?_
 refine JJ.region rfl fun rg => ?_
 refine JJ.move rg rfl rfl rfl ?_
 refine JJ.move rg rfl rfl rfl ?_
 refine JJ.nilCheck rg rfl rfl rfl ?_
 refine JJ.fieldAddr (a' := ⟨bs, 1, none⟩) fo35_1 rg rfl rfl rfl rfl ?_
 refine JJ.loadL (v := .string (s)) ty9 1 rg rfl rfl rfl rfl rfl ?_
 refine JJ.callp bo44 rg rfl rfl rfl rfl (find _ _ kn hk s ) fun _ I3 hle4 _ => ?_
 refine JJ.move rg rfl rfl rfl ?_
 refine JJ.extract rg rfl rfl rfl rfl ?_
 refine JJ.extract rg rfl rfl rfl rfl ?_
 refine JJ.assign rg rfl rfl rfl ?_
 refine JJ.assign rg rfl rfl rfl ?_
 refine JJ.regionEnd ?_
 refine JJ.seq ?_
 refine JJ.seq ?_
 refine JJ.region rfl fun rg => ?_
 refine JJ.move rg rfl rfl rfl ?_
 refine JJ.not rg rfl rfl rfl ?_
 refine JJ.regionEnd ?_
 refine JJ.cond2 rfl (fun hc2 => ?_) (fun hc2 => ?_)
 ·
  have hc2b := hc2
  replace hc2 := not_t hc2
  replace hc2b := hc2
  refine JJ.seq ?_
  refine JJ.region rfl fun rg => ?_
  refine JJ.move rg rfl rfl rfl ?_
  refine JJ.nilCheck rg rfl rfl rfl ?_
  refine JJ.fieldAddr (a' := ⟨bw, 2, none⟩) fo47_2 rg rfl rfl rfl rfl ?_
  refine JJ.loadL (v := .int .i64 (w.vars)) ty3 0 rg rfl rfl rfl rfl rfl ?_
  refine JJ.callp bo45 rg rfl rfl rfl rfl (digits _ w.vars (by first | assumption | omega) (by first | assumption | omega)) fun _ I7 hle8 _ => ?_
  refine JJ.concat rg rfl rfl rfl rfl (by have h1 := digS_size w.vars; have h2 : ByteArray.size ⟨#[118]⟩ = 1 := rfl; omega) ?_
  refine JJ.assign rg rfl rfl rfl ?_
  refine JJ.regionEnd ?_
  refine JJ.seq ?_
  refine JJ.region rfl fun rg => ?_
  refine JJ.move rg rfl rfl rfl ?_
  refine JJ.nilCheck rg rfl rfl rfl ?_
  refine JJ.fieldAddr (a' := ⟨bw, 2, none⟩) fo47_2 rg rfl rfl rfl rfl ?_
  refine JJ.loadL (v := .int .i64 (w.vars)) ty3 0 rg rfl rfl rfl rfl rfl ?_
  refine JJ.binI (z := IntKind.i64.wrap (w.vars + 1)) rg rfl rfl rfl rfl rfl rfl ?_
  refine JJ.nilCheck rg rfl rfl rfl ?_
  refine JJ.fieldAddr (a' := ⟨bw, 2, none⟩) fo47_2 rg rfl rfl rfl rfl ?_
  refine JJ.store (cs' := [.map (Option.some pm), .int .i64 (w.left), .int .i64 (IntKind.i64.wrap (w.vars + 1))]) ty3 0 rg rfl rfl rfl rfl rfl rfl rfl rfl rfl rfl rfl ?_
  refine JJ.regionEnd ?_
  refine JJ.region rfl fun rg => ?_
  refine JJ.move rg rfl rfl rfl ?_
  refine JJ.nilCheck rg rfl rfl rfl ?_
  refine JJ.fieldAddr (a' := ⟨bs, 1, none⟩) fo35_1 rg rfl rfl rfl rfl ?_
  refine JJ.loadL (v := .string (s)) ty9 1 rg rfl rfl rfl rfl rfl ?_
  refine JJ.move rg rfl rfl rfl ?_
  refine JJ.move rg rfl rfl rfl ?_
  refine JJ.build (cells := #[.string (s), .string ((⟨#[118]⟩) ++ (digS w.vars)), .pointer (p)]) zo97 so97 rg rfl rfl rfl rfl ?_
  refine JJ.box (cs := [.string (s), .string ((⟨#[118]⟩) ++ (digS w.vars)), .pointer (p)]) rg rfl rfl rfl rfl fun b9 => ?_
  refine JJ.assign rg rfl rfl rfl ?_
  refine JJ.regionEnd ?_
  refine JJ.seq ?_
  refine JJ.region rfl fun rg => ?_
  refine JJ.move rg rfl rfl rfl ?_
  refine JJ.move rg rfl rfl rfl ?_
  refine JJ.nilCheck rg rfl rfl rfl ?_
  refine JJ.fieldAddr (a' := ⟨bs, 1, none⟩) fo35_1 rg rfl rfl rfl rfl ?_
  refine JJ.store (cs' := [c0, .string ((⟨#[118]⟩) ++ (digS w.vars)), c2, c3, c4, c5, c6]) ty9 2 rg rfl rfl rfl rfl rfl rfl rfl rfl rfl rfl rfl ?_
  refine JJ.regionEnd ?_
  refine JJ.seq ?_
  refine JJ.region rfl fun rg => ?_
  refine JJ.move rg rfl rfl rfl ?_
  refine JJ.assign rg rfl rfl rfl ?_
  refine JJ.regionEnd ?_
  have hl : letK kn s w.vars = (⟨#[118]⟩ ++ digS w.vars, (s, ⟨#[118]⟩ ++ digS w.vars) :: kn, IntKind.i64.wrap (w.vars + 1)) := by unfold letK; rw [hc2b]; rfl
  refine JJ.share fun I10 hle11 hb12 => ?_
  have hrow13 : Row I10 ⟨b9, 0, none⟩ [.string (s), .string ((⟨#[118]⟩) ++ (digS w.vars)), .pointer (p)] := Row.of hb12 0
  clear hb12
  exact JJ.ret1 rfl Try.func29 rfl rfl (fun h q => ⟨Option.some ⟨b9, 0, none⟩, by rw [hl]; exact ⟨_, p, rfl, hrow13, (hk.mono (hle4.trans (hle8.trans hle11)))⟩, rfl, by rw [hl]; exact q⟩)
 ·
  have hc2b := hc2
  replace hc2 := not_f hc2
  replace hc2b := hc2
  refine JJ.skip ?_
  refine JJ.seq ?_
  refine JJ.region rfl fun rg => ?_
  refine JJ.move rg rfl rfl rfl ?_
  refine JJ.move rg rfl rfl rfl ?_
  refine JJ.nilCheck rg rfl rfl rfl ?_
  refine JJ.fieldAddr (a' := ⟨bs, 1, none⟩) fo35_1 rg rfl rfl rfl rfl ?_
  refine JJ.store (cs' := [c0, .string ((findK kn s).1), c2, c3, c4, c5, c6]) ty9 1 rg rfl rfl rfl rfl rfl rfl rfl rfl rfl rfl rfl ?_
  refine JJ.regionEnd ?_
  refine JJ.seq ?_
  refine JJ.region rfl fun rg => ?_
  refine JJ.move rg rfl rfl rfl ?_
  refine JJ.assign rg rfl rfl rfl ?_
  refine JJ.regionEnd ?_
  have hl : letK kn s w.vars = ((findK kn s).1, kn, w.vars) := by unfold letK; rw [hc2b]; rfl
  exact JJ.ret1 rfl Try.func29 rfl rfl (fun h q => ⟨p, by rw [hl]; exact (hk.mono hle4), rfl, by rw [hl]; exact q⟩)
set_option maxHeartbeats 4000000 in
theorem often (I : Hp) (bw pm : Nat) (w : WS) (n : Int) (g : Nat) (fs caps : List Value) (Rk : HP) (Fb : WS → List St × WS) (f C N : Nat) (M : Int) (hM : w.left ≤ M) (hf : f + 1 ≤ 256) (hN : N ≤ 4294967296) (hn : n ≤ 4294967296) (hw : w.ok2 (f + 1)) (hFb : ∀ w : WS, w.ok f → 0 ≤ w.left → w.left < M → Fit C f N w (Fb w).1 (Fb w).2) (hg : bodyOk Try.prog g = true)
  (hF : ∀ I1, I.le I1 → ∀ w : WS, w.ok f → 0 ≤ w.left → w.left < M → Fn Try.prog g (fs ++ [] ++ caps).toArray I1 [wk bw pm w, Rk] (Ret (X := Option Addr × Nat) (fun p I => RTs I p.1 (Fb w).1.length p.2 (Fb w).1) (fun p => .slice p.1 (Fb w).1.length p.2) fun _ => [wk bw pm (Fb w).2, Rk])) :
  Fn Try.prog 25 #[.pointer (Option.some ⟨bw, 0, none⟩), .int .i64 n, .func (.func g) fs.toArray caps.toArray] I [wk bw pm w, Rk] (Ret (X := Option Addr × Nat) (fun p I => RTs I p.1 (oftenF Fb n.toNat [] w).1.length p.2 (oftenF Fb n.toNat [] w).1) (fun p => .slice p.1 (oftenF Fb n.toNat [] w).1.length p.2) fun _ => [wk bw pm (oftenF Fb n.toNat [] w).2, Rk]) := by
 refine Fn.of (args := [_, _, _]) Try.func25 rfl rfl ?_
 refine JJ.seq ?_
 refine JJ.region rfl fun rg => ?_
 refine JJ.assign rg rfl rfl rfl ?_
 refine JJ.regionEnd ?_
 refine JJ.seq ?_
 refine JJ.region rfl fun rg => ?_
 refine JJ.assign rg rfl rfl rfl ?_
 refine JJ.regionEnd ?_
 refine JJ.seq ?_
 refine JJ.seq ?_
 refine JJ.region rfl fun rg => ?_
 refine JJ.move rg rfl rfl rfl ?_
 refine JJ.move rg rfl rfl rfl ?_
 refine JJ.regionEnd ?_
 refine JJ.block ?_
 refine JJ.ownNil 35 7 ?_
 refine JJ.res (L' := [own 35 7 (none) (([] : List St)).length 0 (([] : List (List Value))).flatten, _, _]) (fun h q => q) ?_
 refine JJ.keep [(0, .pointer (some ⟨bw, 0, none⟩)), (1, .int .i64 (n)), (2, .func (.func g) fs.toArray caps.toArray), (6, .slice (none) (0) (0)), (7, .slice (none) ((([] : List St)).length) (0)), (8, .int .i64 (n)), (9, .int .i64 0)] (by repeat (first | exact trivial | refine ⟨rfl, ?_⟩)) ?_
 refine JJ.induct (X := Nat × Hp × Option Addr × Nat × List (List Value) × List St × WS) (fun z => [(0, .pointer (Option.some ⟨bw, 0, none⟩)), (2, .func (.func g) fs.toArray caps.toArray), (7, .slice z.2.2.1 z.2.2.2.2.2.1.length z.2.2.2.1), (8, .int .i64 n), (9, .int .i64 ((z.1 : Nat) : Int))]) (fun z => z.2.1)
  (fun z => [own 35 7 z.2.2.1 z.2.2.2.2.2.1.length z.2.2.2.1 z.2.2.2.2.1.flatten, wk bw pm z.2.2.2.2.2.2, Rk])
  (fun z => z.1 ≤ n.toNat ∧ Hp.le I z.2.1 ∧ z.2.2.2.2.2.1.length = z.1 ∧ RTq z.2.1 z.2.2.2.2.1 z.2.2.2.2.2.1 ∧ z.2.2.2.2.2.2.ok2 (f + 1) ∧ z.2.2.2.2.2.2.left ≤ M ∧ oftenF Fb n.toNat [] w = oftenF Fb (n.toNat - z.1) z.2.2.2.2.2.1 z.2.2.2.2.2.2) (fun z => n.toNat - z.1) (0, I, none, 0, [], [], w) ⟨Nat.zero_le _, .refl _, rfl, Rq.nil, hw, hM, rfl⟩ (fun h => JJ.keep _ (by repeat (first | exact trivial | refine ⟨rfl, ?_⟩)) h) ?_
 rintro ⟨j, I1, A1, c1, css, out, w1⟩ ⟨hj, hle, hol, hq, hw1, hM1, hof⟩ ih
 dsimp only at hj hle hol hq hw1 hM1 hof ih ⊢
 refine JJ.seq ?_
 refine JJ.region rfl fun rg => ?_
 refine JJ.bin rg rfl rfl rfl rfl rfl ?_
 refine JJ.regionEnd ?_
 refine JJ.seq ?_
 refine JJ.cond2 rfl (fun hc3 => ?_) (fun hc3 => ?_)
 ·
  have hc3b := hc3
  replace hc3 := of_decide_eq_true hc3
  obtain ⟨q, hqk⟩ : ∃ q, n.toNat - j = q + 1 := ⟨n.toNat - j - 1, by omega⟩
  have hstep := hof
  rw [hqk, oftenF] at hstep
  have hd := w1.dec_left hw1 hf
  refine JJ.skip ?_
  refine JJ.seq ?_
  refine JJ.block ?_
  refine JJ.seq ?_
  refine JJ.seq ?_
  refine JJ.region rfl fun rg => ?_
  refine JJ.move rg rfl rfl rfl ?_
  refine JJ.nilCheck rg rfl rfl rfl ?_
  refine JJ.fieldAddr (a' := ⟨bw, 1, none⟩) fo47_1 rg rfl rfl rfl rfl ?_
  refine JJ.loadL (v := .int .i64 (w1.left)) ty3 1 rg rfl rfl rfl rfl rfl ?_
  refine JJ.binI (z := IntKind.i64.wrap (w1.left - 1)) rg rfl rfl rfl rfl rfl rfl ?_
  refine JJ.nilCheck rg rfl rfl rfl ?_
  refine JJ.fieldAddr (a' := ⟨bw, 1, none⟩) fo47_1 rg rfl rfl rfl rfl ?_
  refine JJ.store (cs' := [.map (Option.some pm), .int .i64 (IntKind.i64.wrap (w1.left - 1)), .int .i64 (w1.vars)]) ty3 1 rg rfl rfl rfl rfl rfl rfl rfl rfl rfl rfl rfl ?_
  refine JJ.regionEnd ?_
  refine JJ.seq ?_
  refine JJ.region rfl fun rg => ?_
  refine JJ.move rg rfl rfl rfl ?_
  refine JJ.nilCheck rg rfl rfl rfl ?_
  refine JJ.fieldAddr (a' := ⟨bw, 1, none⟩) fo47_1 rg rfl rfl rfl rfl ?_
  refine JJ.loadL (v := .int .i64 (IntKind.i64.wrap (w1.left - 1))) ty3 1 rg rfl rfl rfl rfl rfl ?_
  refine JJ.bin rg rfl rfl rfl rfl rfl ?_
  refine JJ.regionEnd ?_
  refine JJ.cond2 rfl (fun hc5 => ?_) (fun hc5 => ?_)
  ·
   have hc5b := hc5
   replace hc5 := of_decide_eq_true hc5
   have hfin : oftenF Fb n.toNat [] w = (out, w1.dec) := by rw [hstep, decide_eq_true (show w1.dec.left < 0 from hc5)]; rfl
   refine JJ.exit rfl ?_
   refine JJ.seq ?_
   refine JJ.region rfl fun rg => ?_
   refine JJ.move rg rfl rfl rfl ?_
   refine JJ.assign rg rfl rfl rfl ?_
   refine JJ.regionEnd ?_
   refine JJ.shareOwn fun I1 hle2 hs3 => ?_
   have hx4 : RTs I1 (A1) (out).length c1 out := RSl.of hs3 rfl (hq.mono hle2)
   exact JJ.ret1 rfl Try.func25 rfl rfl (fun h q => ⟨(A1, c1), by rw [hfin]; exact hx4, by rw [hfin], by rw [hfin]; exact q⟩)
  ·
   have hc5b := hc5
   replace hc5 := of_decide_eq_false hc5
   have hnn : ¬ w1.dec.left < 0 := hc5
   rw [decide_eq_false hnn, cond_false] at hstep
   have hok : w1.dec.ok f := ⟨by omega, by have := hw1.hi; omega, hw1.v0, hw1.v1⟩
   have hfit := hFb w1.dec hok (by omega) (by omega)
   refine JJ.skip ?_
   refine JJ.region rfl fun rg => ?_
   refine JJ.move rg rfl rfl rfl ?_
   refine JJ.build (cells := #[.int .i64 3, .int .i64 1, .string (⟨#[]⟩), .slice (none) (0) (0)]) zo53 so53 rg rfl rfl rfl rfl ?_
   refine JJ.buildSlice (cs := [.int .i64 3, .int .i64 1, .string (⟨#[]⟩), .slice (none) (0) (0)]) eo33 zo53 rg rfl rfl rfl rfl rfl rfl rfl fun b5 => ?_
   refine JJ.move rg rfl rfl rfl ?_
   refine JJ.pull 1 rfl rfl ?_
   refine JJ.pull 1 rfl rfl ?_
   refine JJ.pull 3 rfl rfl ?_
   refine JJ.pull 3 rfl rfl ?_
   refine JJ.call (Lc := [wk bw pm w1.dec, Rk]) (Lr := [_, _]) hg rg rfl rfl rfl rfl (hF _ hle w1.dec hok (by omega) (by omega)) (fun _ q => q) fun ⟨A2, c2⟩ I6 hle7 hres => ?_
   dsimp only [List.cons_append, List.nil_append] at hres ⊢
   refine JJ.build (cells := #[.int .i64 13, .string (⟨#[]⟩), .int .i64 0, .slice (some ⟨b5, 0, none⟩) (1) (1), .slice (A2) (((Fb w1.dec).1).length) (c2), .slice (none) (0) (0), .bool false]) zo35 so35 rg rfl rfl rfl rfl ?_
   refine JJ.buildSlice (cs := [.int .i64 13, .string (⟨#[]⟩), .int .i64 0, .slice (some ⟨b5, 0, none⟩) (1) (1), .slice (A2) (((Fb w1.dec).1).length) (c2), .slice (none) (0) (0), .bool false]) eo23 zo35 rg rfl rfl rfl rfl rfl rfl rfl fun b8 => ?_
   (try dsimp only [List.set])
   refine JJ.pull 3 rfl rfl ?_
   refine JJ.share fun I11 hle12 hb13 => ?_
   have hrow14 : Row I11 ⟨b5, 0, none⟩ [.int .i64 3, .int .i64 1, .string (⟨#[]⟩), .slice (none) (0) (0)] := Row.of hb13 0
   clear hb13
   have hx15 : RXs I11 (some ⟨b5, 0, none⟩) ([Ex.mk 3 1 (⟨#[]⟩) ([] : List Ex)]).length 1 [Ex.mk 3 1 (⟨#[]⟩) ([] : List Ex)] := RSl.of (css := [[.int .i64 3, .int .i64 1, .string (⟨#[]⟩), .slice (none) (0) (0)]]) (.inr ⟨_, rfl, by simp, by simpa using hrow14⟩) rfl (.cons ⟨rfl, (RX.mk RXs.nil)⟩ .nil)
   refine JJ.appendQ (css := css) (newsL := [[.int .i64 13, .string (⟨#[]⟩), .int .i64 0, .slice (some ⟨b5, 0, none⟩) (1) (1), .slice (A2) (((Fb w1.dec).1).length) (c2), .slice (none) (0) (0), .bool false]]) (ds := out) (ms := [St.mk 13 (⟨#[]⟩) 0 ([Ex.mk 3 1 (⟨#[]⟩) ([] : List Ex)]) (Fb w1.dec).1 ([] : List St) false]) eo23 io35 rfl 3 rg rfl rfl rfl rfl rfl (SrcOk.ofLit (news := [.int .i64 13, .string (⟨#[]⟩), .int .i64 0, .slice (some ⟨b5, 0, none⟩) (1) (1), .slice (A2) (((Fb w1.dec).1).length) (c2), .slice (none) (0) (0), .bool false]) sl23 0 rfl rfl (by simp [Value.oneCell'])) rfl (by omega) fun A9 c10 => ?_
   have hq16 : RTq I11 (css ++ [[.int .i64 13, .string (⟨#[]⟩), .int .i64 0, .slice (some ⟨b5, 0, none⟩) (1) (1), .slice (A2) (((Fb w1.dec).1).length) (c2), .slice (none) (0) (0), .bool false]]) (out ++ [St.mk 13 (⟨#[]⟩) 0 ([Ex.mk 3 1 (⟨#[]⟩) ([] : List Ex)]) (Fb w1.dec).1 ([] : List St) false]) := Rq.app ((hq.mono (hle7.trans hle12))) (All2.cons ⟨rfl, (RT.mk hx15 (hres.mono hle12) RTs.nil)⟩ .nil)
   dsimp only [List.set]
   refine JJ.assign rg rfl rfl rfl ?_
   refine JJ.regionEnd ?_
   refine JJ.inBlock ?_
   refine JJ.region rfl fun rg => ?_
   refine JJ.binI (z := ((j + 1 : Nat) : Int)) rg rfl rfl rfl rfl rfl (wrap_to (by omega) (by omega) (by omega)) ?_
   refine JJ.move rg rfl rfl rfl ?_
   refine JJ.regionEnd ?_
   refine JJ.drop ?_
   refine JJ.pull 1 rfl rfl ?_
   refine JJ.pull 1 rfl rfl ?_
   refine JJ.pull 2 rfl rfl ?_
   have hlow : -35184372088832 ≤ (Fb w1.dec).2.left := by by_cases h1 : w1.dec.left ≤ 0; (have := hfit.neg h1; omega); (have := hfit.pos (by omega); omega)
   refine JJ.keep _ ?_ (ih (j + 1, I11, A9, c10, (css ++ [[.int .i64 13, .string (⟨#[]⟩), .int .i64 0, .slice (some ⟨b5, 0, none⟩) (1) (1), .slice (A2) (((Fb w1.dec).1).length) (c2), .slice (none) (0) (0), .bool false]]), (out ++ [St.mk 13 (⟨#[]⟩) 0 ([Ex.mk 3 1 (⟨#[]⟩) ([] : List Ex)]) (Fb w1.dec).1 ([] : List St) false]), (Fb w1.dec).2) ⟨by omega, (hle.trans (hle7.trans hle12)), by simp [hol], hq16, ⟨hlow, by have := hfit.le; have := hw1.hi; dsimp only; omega, hfit.v0, hfit.v1⟩, by have := hfit.le; dsimp only; omega, by rw [hstep, show n.toNat - (j + 1) = q from by omega]; rfl⟩ (by dsimp only; omega))
   repeat (first | exact trivial | refine ⟨rfl, ?_⟩)
 ·
  have hc3b := hc3
  replace hc3 := of_decide_eq_false hc3
  have hfin : oftenF Fb n.toNat [] w = (out, w1) := by rw [hof, show n.toNat - j = 0 from by omega]; rfl
  refine JJ.exit rfl ?_
  refine JJ.seq ?_
  refine JJ.region rfl fun rg => ?_
  refine JJ.move rg rfl rfl rfl ?_
  refine JJ.assign rg rfl rfl rfl ?_
  refine JJ.regionEnd ?_
  refine JJ.shareOwn fun I17 hle18 hs19 => ?_
  have hx20 : RTs I17 (A1) (out).length c1 out := RSl.of hs19 rfl (hq.mono hle18)
  exact JJ.ret1 rfl Try.func25 rfl rfl (fun h q => ⟨(A1, c1), by rw [hfin]; exact hx20, by rw [hfin], by rw [hfin]; exact q⟩)
/-- The procedures by their names. -/
def PM (I : Hp) (pm : Nat) (pf : ByteArray → List St) : Prop := ∃ m : SMap, MapI I pm m ∧ ∀ s, ∃ A cp, (m.find s).getD (.slice Option.none 0 0) = .slice A (pf s).length cp ∧ RTs I A (pf s).length cp (pf s)
theorem PM.mono {I I' : Hp} {pm : Nat} {pf : ByteArray → List St} (h : PM I pm pf) (l : I.le I') : PM I' pm pf := by
  obtain ⟨m, h1, h2⟩ := h
  refine ⟨m, h1.mono l, fun s => ?_⟩
  obtain ⟨A, cp, e, r⟩ := h2 s
  exact ⟨A, cp, e, r.mono l⟩
theorem JJ.lookupS {c : Cx} {K : List Item} {E : List (Nat × Value)} {D : List Deferred} {I : Hp} {L : List HP} {ops : Array Oper} {i : Nat} {is : List Nat} {dst : Option Nat} {ty : TypeId} {pos : String} {aft : Array Edge} {gd : Option (Nat × Bool)} {T e : TypeId} {z : Value} (hT : smapT c.P T = Option.some e) (hz : zeroOf c.P e = Option.some z) {x y : Operand} {b : Nat} {k : ByteArray} {m : SMap} {v : Value} (rg : Reg c.N ops) (ho : ops[i]? = Option.some ⟨dst, .lookup T x y false, ty, pos, aft, gd⟩) (hg : wants ops E gd = Option.some true)
    (hx : evE E x = Option.some (.map (Option.some b))) (hy : evE E y = Option.some (.string k)) (hm : MapI I b m) (hv : (m.find k).getD z = v) (hJ : JJ c (.inRegion ops is :: K) (putE dst v E) D I L) : JJ c (.inRegion ops (i :: is) :: K) E D I L :=
  JJ.op0 rg ho hg (fun _ e => by cases e) (fun A w h kk hE hS hR => by
    obtain ⟨es, clock, hb, he⟩ := hm
    have := lookup_run (ok := false) (k := k) hT hz (hR.Ion _ _ hb) he
    exact ⟨.value v, by simp [execOp, hE.ev hx, hE.ev hy, this, hv], .inl rfl⟩) hJ
/-- A clone of one statement. -/
theorem JJ.clone1 {k : Nat} {cs : List Value} {e : List Ex} {c : Cx} {K : List Item} {E : List (Nat × Value)} {D : List Deferred} {I : Hp} {L : List HP}
    (h : ∀ k' A1 cp1 g cp2 A3 cp3 A4 cp4 A cp v4 v5 v6, cs = [.slice A1 0 cp1, .slice (Option.some ⟨g, 0, none⟩) 1 cp2, .slice A3 0 cp3, .slice A4 0 cp4] → JJ c K E D I (own 35 7 (Option.some ⟨g, 0, none⟩) 1 cp2 [.int .i64 0, .string ⟨#[]⟩, .int .i64 0, .slice A e.length cp, v4, v5, v6] :: OSl (OE 53 k') 53 4 A e.length cp e :: L)) : JJ c K E D I (Wo.OPg k cs (Pg.mk [] [St.mk 0 ⟨#[]⟩ 0 e [] [] false] [] []) :: L) := by
  refine fun a w hh kk hE hS hR => ?_
  obtain ⟨h1, h2, l1, l2, d, ⟨A1, cp1, A2, cp2, A3, cp3, A4, cp4, rfl, h3, h4, l3, l4, d3, _, h5, h6, l5, l6, d5, ⟨css, hn, hl, hc, h7, h8, l7, l8, d7, ho, h9, h10, l9, l10, d9, hz, _⟩, _⟩, hL⟩ := hS
  match css, hl with
  | [c0], _ =>
    obtain ⟨h11, h12, l11, l12, d11, hOT, _⟩ := hz
    cases k with
    | zero => exact hOT.elim
    | succ k' =>
      obtain ⟨A, cp, A', cp', A'', cp'', rfl, h13, h14, l13, l14, d13, hE1, _⟩ := hOT
      rcases id ho.2 with ⟨_, h0, _⟩ | ⟨g, cur, rfl, hb, hnc, hcs, htk⟩
      · cases h0
      · refine h k' A1 cp1 g cp2 A3 cp3 A4 cp4 A cp _ _ _ rfl a w hh kk hE ⟨h7, h8.add h2, ?_, ?_, ?_, ho, h13, h2, ?_, ?_, ?_, hE1, hL⟩ hR
        · exact ((l7.trans l5).trans l4).trans l1
        · intro n o x
          simp only [Hp.add] at x
          cases y : h8 n with
          | none => rw [y] at x; exact l2 n o (by simpa using x)
          | some z => rw [y] at x; exact l1 n o (l4 n o (l5 n o (l8 n o (by rw [y]; simpa using x))))
        · exact (Hp.add_dj d7.symm (d.mono ((l7.trans l5).trans l4) (.refl _)).symm).symm
        · exact fun n o x => Hp.le_add _ _ n o ((l13.trans (l11.trans l9)) n o x)
        · exact Hp.le_add' (d.mono ((l8.trans l5).trans l4) (.refl _))
        · exact d.mono (((l13.trans (l11.trans l9)).trans l8).trans (l5.trans l4)) (.refl _)
def BLK (pm C hb : Nat) (pf : ByteArray → List St) (rec : KN → WS → List St → List St × WS) : Prop := ∀ (I : Hp) (bw : Nat) (p : Option Addr) (kn : KN) (w : WS) (A : Option Addr) (cp : Nat) (l : List St) (dp : Nat), RK I p kn → PM I pm pf → RTs I A l.length cp l → St.okl l dp = true → St.szl l + 2 ≤ C → w.ok hb →
  Fn Try.prog 13 #[.pointer (Option.some ⟨bw, 0, none⟩), .slice A l.length cp, .pointer p] I [wk bw pm w] (Ret (X := Option Addr × Nat) (fun p I => RTs I p.1 (rec kn w l).1.length p.2 (rec kn w l).1) (fun p => .slice p.1 (rec kn w l).1.length p.2) fun _ => [wk bw pm (rec kn w l).2])
set_option maxHeartbeats 4000000 in
theorem blk1 (pm C hb : Nat) (pf : ByteArray → List St) (rec : KN → WS → List St → List St × WS) (hrec : BLK pm C hb pf rec) (I : Hp) (bw b3 b5 b9 : Nat) (p : Option Addr) (kn : KN) (x : St) (A0 A1 A2 : Option Addr) (cp0 cp1 cp2 dp : Nat) (hk : RK I p kn) (hpm : PM I pm pf) (hx1 : RTs I A1 x.body.length cp1 x.body) (hok : St.okl x.body dp = true) (hC : St.szl x.body + 2 ≤ C) (w : WS) (hw : w.ok hb) : Fn Try.prog 26 #[.pointer (some ⟨b3, 0, none⟩), .pointer (some ⟨b9, 0, none⟩), .pointer (some ⟨b5, 0, none⟩)] I [wk bw pm w, pack [blk b3 (.cells [.pointer (some ⟨bw, 0, none⟩)].toArray 45), blk b9 (.cells [.int .i64 (x.op), .string (x.s), .int .i64 (x.n), .slice (A0) ((x.e).length) (cp0), .slice (A1) ((x.body).length) (cp1), .slice (A2) ((x.els).length) (cp2), .bool (x.commit)].toArray 35), blk b5 (.cells [.pointer (p)].toArray 68)]] (Ret (X := Option Addr × Nat) (fun p I => RTs I p.1 (rec kn w x.body).1.length p.2 (rec kn w x.body).1) (fun p => .slice p.1 (rec kn w x.body).1.length p.2) fun _ => [wk bw pm (rec kn w x.body).2, pack [blk b3 (.cells [.pointer (some ⟨bw, 0, none⟩)].toArray 45), blk b9 (.cells [.int .i64 (x.op), .string (x.s), .int .i64 (x.n), .slice (A0) ((x.e).length) (cp0), .slice (A1) ((x.body).length) (cp1), .slice (A2) ((x.els).length) (cp2), .bool (x.commit)].toArray 35), blk b5 (.cells [.pointer (p)].toArray 68)]]) := by
 refine Fn.of (args := [_, _, _]) Try.func26 rfl rfl ?_
 refine JJ.pull 1 rfl rfl ?_
 refine JJ.unpack ?_
 dsimp only [List.cons_append, List.nil_append]
 refine JJ.seq ?_
 refine JJ.region rfl fun rg => ?_
 refine JJ.assign rg rfl rfl rfl ?_
 refine JJ.regionEnd ?_
 refine JJ.seq ?_
 refine JJ.region rfl fun rg => ?_
 refine JJ.loadL (v := .pointer (some ⟨bw, 0, none⟩)) ty45 0 rg rfl rfl rfl rfl rfl ?_
 refine JJ.fieldAddr (a' := ⟨b9, 4, none⟩) fo35_4 rg rfl rfl rfl rfl ?_
 refine JJ.loadL (v := .slice (A1) ((x.body).length) (cp1)) ty23 1 rg rfl rfl rfl rfl rfl ?_
 refine JJ.loadL (v := .pointer (p)) ty68 2 rg rfl rfl rfl rfl rfl ?_
 refine JJ.pull 2 rfl rfl ?_
 refine JJ.pull 2 rfl rfl ?_
 refine JJ.pull 2 rfl rfl ?_
 refine JJ.pull 3 rfl rfl ?_
 refine JJ.call (Lc := [_]) (Lr := [_, _, _]) bo13 rg rfl rfl rfl rfl (hrec _ bw p kn w A1 cp1 x.body dp hk hpm hx1 hok hC hw) (fun _ q => q) fun ⟨A9, c9⟩ I1 hle2 hres => ?_
 dsimp only [List.cons_append, List.nil_append] at hres ⊢
 refine JJ.assign rg rfl rfl rfl ?_
 refine JJ.regionEnd ?_
 exact JJ.ret1 rfl Try.func26 rfl rfl (fun h q => ⟨(A9, c9), hres, rfl, Sat.swap (Sat.packn (L1 := [_, _, _]) (L := [_]) (Sat.rot (A := [_]) q))⟩)
set_option maxHeartbeats 4000000 in
theorem blk2 (pm C hb : Nat) (pf : ByteArray → List St) (rec : KN → WS → List St → List St × WS) (hrec : BLK pm C hb pf rec) (I : Hp) (bw b3 b5 b9 : Nat) (x : St) (A0 A1 A2 : Option Addr) (cp0 cp1 cp2 dp : Nat) (hpm : PM I pm pf) (hok : St.okl (pf x.s) dp = true) (hC : St.szl (pf x.s) + 2 ≤ C) (w : WS) (hw : w.ok hb) : Fn Try.prog 27 #[.pointer (some ⟨b3, 0, none⟩), .pointer (some ⟨b9, 0, none⟩)] I [wk bw pm w, pack [blk b3 (.cells [.pointer (some ⟨bw, 0, none⟩)].toArray 45), blk b9 (.cells [.int .i64 (x.op), .string (x.s), .int .i64 (x.n), .slice (A0) ((x.e).length) (cp0), .slice (A1) ((x.body).length) (cp1), .slice (A2) ((x.els).length) (cp2), .bool (x.commit)].toArray 35)]] (Ret (X := Option Addr × Nat) (fun p I => RTs I p.1 (rec [] w (pf x.s)).1.length p.2 (rec [] w (pf x.s)).1) (fun p => .slice p.1 (rec [] w (pf x.s)).1.length p.2) fun _ => [wk bw pm (rec [] w (pf x.s)).2, pack [blk b3 (.cells [.pointer (some ⟨bw, 0, none⟩)].toArray 45), blk b9 (.cells [.int .i64 (x.op), .string (x.s), .int .i64 (x.n), .slice (A0) ((x.e).length) (cp0), .slice (A1) ((x.body).length) (cp1), .slice (A2) ((x.els).length) (cp2), .bool (x.commit)].toArray 35)]]) := by
 refine Fn.of (args := [_, _]) Try.func27 rfl rfl ?_
 refine JJ.pull 1 rfl rfl ?_
 refine JJ.unpack ?_
 dsimp only [List.cons_append, List.nil_append]
 refine JJ.seq ?_
 refine JJ.region rfl fun rg => ?_
 refine JJ.assign rg rfl rfl rfl ?_
 refine JJ.regionEnd ?_
 refine JJ.seq ?_
 obtain ⟨m, hm, hmf⟩ := id hpm
 obtain ⟨A8, cp8, hfind, hr8⟩ := hmf x.s
 refine JJ.draw (m := 8) [(0, .pointer (some ⟨b3, 0, none⟩)), (1, .pointer (some ⟨b9, 0, none⟩)), (2, .slice (none) (0) (0))]
  (fun i => match i with | 0 => fun _ v => v = .pointer (some ⟨bw, 0, none⟩) | 1 => fun _ v => v = .pointer (some ⟨bw, 0, none⟩) | 2 => fun _ v => v = .pointer (some ⟨bw, 0, none⟩) | 3 => fun _ v => v = .pointer (some ⟨bw, 0, none⟩) | 4 => fun _ v => v = .map (Option.some pm) | 5 => fun _ v => v = .pointer (some ⟨b9, 1, none⟩) | 6 => fun _ v => v = .string (x.s) | 7 => fun _ v => v = .slice (A8) ((pf x.s).length) (cp8) | _ => fun _ _ => False) mx rfl rfl ?_ (by repeat (first | exact trivial | refine ⟨rfl, ?_⟩)) (fun rg => ?_) (fun rg => ?_)
 ·
  rintro (_ | _ | _ | _ | _ | _ | _ | _ | i) I1_ I2_ v l h
  · exact h
  · exact h
  · exact h
  · exact h
  · exact h
  · exact h
  · exact h
  · exact h
  · exact h
 ·
  refine ⟨?_, ?_, ?_, ?_, ?_, ?_, ?_, ?_, trivial⟩
  ·
   intro is E2 I2_ hle_ hb hd kk_
   obtain ⟨hb0, hb1, hb2, -⟩ := hb
   refine JJ.loadL (v := .pointer (some ⟨bw, 0, none⟩)) ty45 0 rg rfl rfl hb0 rfl rfl (kk_ _ _ (.refl _) rfl)
  ·
   intro is E2 I2_ hle_ hb hd kk_
   obtain ⟨hb0, hb1, hb2, -⟩ := hb
   refine JJ.loadL (v := .pointer (some ⟨bw, 0, none⟩)) ty45 0 rg rfl rfl hb0 rfl rfl (kk_ _ _ (.refl _) rfl)
  ·
   intro is E2 I2_ hle_ hb hd kk_
   obtain ⟨hb0, hb1, hb2, -⟩ := hb
   obtain ⟨d1, v1, e1, g1, s1⟩ := hd 1 (by decide)
   cases e1
   subst s1
   refine JJ.nilCheck rg rfl rfl g1 (kk_ _ _ (.refl _) rfl)
  ·
   intro is E2 I2_ hle_ hb hd kk_
   obtain ⟨hb0, hb1, hb2, -⟩ := hb
   obtain ⟨d2, v2, e2, g2, s2⟩ := hd 2 (by decide)
   cases e2
   subst s2
   refine JJ.fieldAddr (a' := ⟨bw, 0, none⟩) fo47_0 rg rfl rfl g2 rfl (kk_ _ _ (.refl _) rfl)
  ·
   intro is E2 I2_ hle_ hb hd kk_
   obtain ⟨hb0, hb1, hb2, -⟩ := hb
   obtain ⟨d3, v3, e3, g3, s3⟩ := hd 3 (by decide)
   cases e3
   subst s3
   refine JJ.loadL (v := .map (Option.some pm)) ty42 2 rg rfl rfl g3 rfl rfl (kk_ _ _ (.refl _) rfl)
  ·
   intro is E2 I2_ hle_ hb hd kk_
   obtain ⟨hb0, hb1, hb2, -⟩ := hb
   refine JJ.fieldAddr (a' := ⟨b9, 1, none⟩) fo35_1 rg rfl rfl hb1 rfl (kk_ _ _ (.refl _) rfl)
  ·
   intro is E2 I2_ hle_ hb hd kk_
   obtain ⟨hb0, hb1, hb2, -⟩ := hb
   obtain ⟨d5, v5, e5, g5, s5⟩ := hd 5 (by decide)
   cases e5
   subst s5
   refine JJ.loadL (v := .string (x.s)) ty9 1 rg rfl rfl g5 rfl rfl (kk_ _ _ (.refl _) rfl)
  ·
   intro is E2 I2_ hle_ hb hd kk_
   obtain ⟨hb0, hb1, hb2, -⟩ := hb
   obtain ⟨d4, v4, e4, g4, s4⟩ := hd 4 (by decide)
   cases e4
   subst s4
   obtain ⟨d6, v6, e6, g6, s6⟩ := hd 6 (by decide)
   cases e6
   subst s6
   refine JJ.lookupS sm42 zo23 rg rfl rfl g4 g6 (hm.mono hle_) hfind (kk_ _ _ (.refl _) rfl)
 intro vs I2 hle1 hs_
 obtain ⟨hv0, hv1, hv2, hv3, hv4, hv5, hv6, hv7, -⟩ := hs_
 refine JJ.keep [(2, .slice (none) (0) (0)), (3, .pointer (some ⟨bw, 0, none⟩)), (10, .slice (A8) ((pf x.s).length) (cp8))] ⟨rfl, congrArg some hv0, congrArg some hv7, trivial⟩ ?_
 refine JJ.pull 1 rfl rfl ?_
 refine JJ.pull 1 rfl rfl ?_
 refine JJ.pull 2 rfl rfl ?_
 refine JJ.call (Lc := [_]) (Lr := [_, _]) bo13 rg rfl rfl rfl rfl (hrec _ bw none [] w A8 cp8 (pf x.s) dp RK.nil (hpm.mono hle1) (hr8.mono hle1) hok hC hw) (fun _ q => q) fun ⟨A9, c9⟩ I3 hle4 hres => ?_
 dsimp only [List.cons_append, List.nil_append] at hres ⊢
 refine JJ.assign rg rfl rfl rfl ?_
 refine JJ.regionEnd ?_
 exact JJ.ret1 rfl Try.func27 rfl rfl (fun h q => ⟨(A9, c9), hres, rfl, Sat.swap (Sat.packn (L1 := [_, _]) (L := [_]) (Sat.rot (A := [_]) q))⟩)
theorem ok_n16 {x : St} {d : Nat} (h : x.ok d = true) : x.n ≤ 16 := by
  rw [St.ok_eq] at h
  simp only [shapeB, Bool.and_eq_true, decide_eq_true_eq] at h
  omega
set_option maxHeartbeats 4000000 in
theorem blk_step (pm C g : Nat) (pf : ByteArray → List St) (rec : KN → WS → List St → List St × WS) (M : Int) (hg : g + 1 ≤ 256) (hC1 : C ≤ 4294967296) (hpC : ∀ s, St.szl (pf s) + 2 ≤ C) (hpok : ∀ s, St.okl (pf s) 1 = true) (hrec : 1 ≤ M → BLK pm C g pf rec) (hfit : 1 ≤ M → ∀ kn w l, w.ok g → St.szl l + 2 ≤ C → Fit C g C w (rec kn w l).1 (rec kn w l).2)
  (I : Hp) (bw : Nat) (p : Option Addr) (kn : KN) (w : WS) (A : Option Addr) (cp : Nat) (l : List St) (dp : Nat) (hk : RK I p kn) (hpm : PM I pm pf) (hl : RTs I A l.length cp l) (hok : St.okl l dp = true) (hC : St.szl l + 2 ≤ C) (hw : w.ok (g + 1)) (hM : w.left ≤ M) :
  Fn Try.prog 13 #[.pointer (Option.some ⟨bw, 0, none⟩), .slice A l.length cp, .pointer p] I [wk bw pm w] (Ret (X := Option Addr × Nat) (fun p I => RTs I p.1 (blkF rec pf l [] w kn).1.length p.2 (blkF rec pf l [] w kn).1) (fun p => .slice p.1 (blkF rec pf l [] w kn).1.length p.2) fun _ => [wk bw pm (blkF rec pf l [] w kn).2]) := by
 have hll := St.szl_len l
 refine Fn.of (args := [_, _, _]) Try.func13 rfl rfl ?_
 refine JJ.seq ?_
 refine JJ.region rfl fun rg => ?_
 refine JJ.box (cs := [.pointer (some ⟨bw, 0, none⟩)]) rg rfl rfl rfl rfl fun b1 => ?_
 refine JJ.box (cs := [.pointer (p)]) rg rfl rfl rfl rfl fun b2 => ?_
 refine JJ.assign rg rfl rfl rfl ?_
 refine JJ.regionEnd ?_
 refine JJ.seq ?_
 refine JJ.region rfl fun rg => ?_
 refine JJ.assign rg rfl rfl rfl ?_
 refine JJ.regionEnd ?_
 refine JJ.seq ?_
 refine JJ.seq ?_
 refine JJ.region rfl fun rg => ?_
 refine JJ.move rg rfl rfl rfl ?_
 refine JJ.lenSlice ss23 rg rfl rfl rfl ?_
 refine JJ.move rg rfl rfl rfl ?_
 refine JJ.regionEnd ?_
 refine JJ.block ?_
 refine JJ.ownNil 35 7 ?_
 refine JJ.res (L' := [own 35 7 (none) (([] : List St)).length 0 (([] : List (List Value))).flatten, _, _, _]) (fun h q => q) ?_
 refine JJ.keep [(0, .pointer (some ⟨bw, 0, none⟩)), (1, .slice (A) ((l).length) (cp)), (2, .pointer (p)), (3, .pointer (some ⟨b1, 0, none⟩)), (5, .pointer (some ⟨b2, 0, none⟩)), (6, .slice (none) (0) (0)), (7, .slice (none) ((([] : List St)).length) (0)), (12, .slice (A) ((l).length) (cp)), (13, .int .i64 ((((l).length : Nat) : Int))), (14, .int .i64 0)] (by repeat (first | exact trivial | refine ⟨rfl, ?_⟩)) ?_
 refine JJ.pull 3 rfl rfl ?_
 refine JJ.pull 2 rfl rfl ?_
 refine JJ.pull 3 rfl rfl ?_
 refine JJ.pull 3 rfl rfl ?_
 refine JJ.induct (X := Nat × Hp × Option Addr × Nat × List (List Value) × List St × WS × Option Addr × KN) (fun z => [(3, .pointer (Option.some ⟨b1, 0, none⟩)), (5, .pointer (Option.some ⟨b2, 0, none⟩)), (7, .slice z.2.2.1 z.2.2.2.2.2.1.length z.2.2.2.1), (12, .slice A l.length cp), (13, .int .i64 ((l.length : Nat) : Int)), (14, .int .i64 ((z.1 : Nat) : Int))]) (fun z => z.2.1)
  (fun z => [own 35 7 z.2.2.1 z.2.2.2.2.2.1.length z.2.2.2.1 z.2.2.2.2.1.flatten, blk b1 (.cells [.pointer (Option.some ⟨bw, 0, none⟩)].toArray 45), blk b2 (.cells [.pointer z.2.2.2.2.2.2.2.1].toArray 68), wk bw pm z.2.2.2.2.2.2.1])
  (fun z => z.1 ≤ l.length ∧ Hp.le I z.2.1 ∧ RTq z.2.1 z.2.2.2.2.1 z.2.2.2.2.2.1 ∧ RK z.2.1 z.2.2.2.2.2.2.2.1 z.2.2.2.2.2.2.2.2 ∧ z.2.2.2.2.2.2.1.ok2 (g + 1) ∧ z.2.2.2.2.2.2.1.left ≤ M ∧ -17600776036352 + ((l.length - z.1 : Nat) : Int) ≤ z.2.2.2.2.2.2.1.left ∧ z.2.2.2.2.2.1.length ≤ 16 * z.1 ∧ blkF rec pf l [] w kn = blkF rec pf (l.drop z.1) z.2.2.2.2.2.1 z.2.2.2.2.2.2.1 z.2.2.2.2.2.2.2.2) (fun z => l.length - z.1)
  (0, I, Option.none, 0, [], [], w, p, kn) ⟨Nat.zero_le _, .refl _, Rq.nil, hk, ⟨by have := hw.lo; dsimp only; omega, hw.hi, hw.v0, hw.v1⟩, hM, by have := hw.lo; dsimp only; omega, Nat.le_refl _, rfl⟩ (fun h => JJ.keep _ (by repeat (first | exact trivial | refine ⟨rfl, ?_⟩)) h) ?_
 rintro ⟨i, I1, A1o, c1o, css, out, w1, p1, kn1⟩ ⟨hi, hle, hq, hk1, hw1, hM1, hlo, hol, hbf⟩ ih
 dsimp only at hi hle hq hk1 hw1 hM1 hlo hol hbf ih ⊢
 refine JJ.seq ?_
 refine JJ.region rfl fun rg => ?_
 refine JJ.bin rg rfl rfl rfl rfl rfl ?_
 refine JJ.regionEnd ?_
 refine JJ.seq ?_
 refine JJ.cond2 rfl (fun hc3 => ?_) (fun hc3 => ?_)
 ·
  have hc3b := hc3
  replace hc3 := of_decide_eq_true hc3
  have hlt : i < l.length := by omega
  obtain ⟨x, hx⟩ : ∃ x, l[i]? = Option.some x := ⟨_, List.getElem?_eq_getElem hlt⟩
  have hdr := drop_cons hx
  have hokx := St.okl_mem hok (List.mem_of_getElem? hx)
  have hzx := St.szl_mem (List.mem_of_getElem? hx)
  have hy3 := St.sz_eq x
  have hl4 := Ex.szl_len (x).e
  have hl5 := St.szl_len (x).body
  have hl6 := St.szl_len (x).els
  have hn16 : x.n ≤ 16 := ok_n16 hokx
  have hstep := hbf
  rw [hdr, blkF] at hstep
  have hd := w1.dec_left hw1 hg
  refine JJ.skip ?_
  refine JJ.seq ?_
  refine JJ.block ?_
  refine JJ.seq ?_
  refine JJ.region rfl fun rg => ?_
  obtain ⟨a7, cs8, hA9, hcap10, -, hre11, hrow12⟩ := RSl.get (hl.mono hle) hx
  have hlthx := (List.getElem?_eq_some_iff.1 hx).1
  obtain ⟨A13, cp14, A16, cp17, A19, cp20, rfl, hx15, hx18, hx21⟩ := RT.open hre11
  refine JJ.indexAddrA hA9 (a' := a7.add (i * 7)) eo23 rg rfl rfl rfl rfl (by omega) (by omega) rfl ?_
  refine JJ.loadI (v := .agg #[.int .i64 (x.op), .string (x.s), .int .i64 (x.n), .slice (A13) ((x.e).length) (cp14), .slice (A16) ((x.body).length) (cp17), .slice (A19) ((x.els).length) (cp20), .bool (x.commit)]) ty35 rg rfl rfl rfl hrow12 rfl ?_
  refine JJ.alloc (cs := [.int .i64 0, .string (⟨#[]⟩), .int .i64 0, .slice (none) (0) (0), .slice (none) (0) (0), .slice (none) (0) (0), .bool false]) zo35 rfl rg rfl rfl fun b22 => ?_
  refine JJ.store (cs' := [.int .i64 (x.op), .string (x.s), .int .i64 (x.n), .slice (A13) ((x.e).length) (cp14), .slice (A16) ((x.body).length) (cp17), .slice (A19) ((x.els).length) (cp20), .bool (x.commit)]) ty35 0 rg rfl rfl rfl rfl rfl rfl rfl rfl rfl rfl rfl ?_
  refine JJ.regionEnd ?_
  refine JJ.seq ?_
  refine JJ.seq ?_
  refine JJ.region rfl fun rg => ?_
  refine JJ.fieldAddr (a' := ⟨b22, 0, none⟩) fo35_0 rg rfl rfl rfl rfl ?_
  refine JJ.loadL (v := .int .i64 (x.op)) ty3 0 rg rfl rfl rfl rfl rfl ?_
  refine JJ.regionEnd ?_
  refine JJ.block ?_
  refine JJ.seq ?_
  refine JJ.region rfl fun rg => ?_
  refine JJ.bin rg rfl rfl rfl rfl rfl ?_
  refine JJ.assign rg rfl rfl rfl ?_
  refine JJ.regionEnd ?_
  refine JJ.cond2 rfl (fun hc6 => ?_) (fun hc6 => ?_)
  ·
   have hc6b := hc6
   replace hc6 := of_decide_eq_true hc6
   rw [decide_eq_true hc6, cond_true] at hstep
   refine JJ.seq ?_
   refine JJ.region rfl fun rg => ?_
   refine JJ.move rg rfl rfl rfl ?_
   refine JJ.loadL (v := .pointer (some ⟨bw, 0, none⟩)) ty45 2 rg rfl rfl rfl rfl rfl ?_
   refine JJ.fieldAddr (a' := ⟨b22, 2, none⟩) fo35_2 rg rfl rfl rfl rfl ?_
   refine JJ.loadL (v := .int .i64 (x.n)) ty2 0 rg rfl rfl rfl rfl rfl ?_
   refine JJ.makeFunc rg rfl rfl [].toArray [.pointer (some ⟨b1, 0, none⟩), .pointer (some ⟨b22, 0, none⟩), .pointer (some ⟨b2, 0, none⟩)].toArray (fun a hE => by simp []) (fun a hE => by simp [hE.ev (o := .tmp 3) (v := .pointer (some ⟨b1, 0, none⟩)) rfl, hE.ev (o := .tmp 9) (v := .pointer (some ⟨b22, 0, none⟩)) rfl, hE.ev (o := .tmp 5) (v := .pointer (some ⟨b2, 0, none⟩)) rfl]) ?_
   have hoft := often_fit (C := C) (M := M) (f := g) (N := C) (by omega) hg hC1 (Fb := fun w_ => rec kn1 w_ x.body) (fun w_ h1 h2 h3 => hfit (by omega) kn1 w_ x.body h1 (by omega)) x.n.toNat [] w1 hw1 hM1
   have hoflen := often_len (fun w_ => rec kn1 w_ x.body) x.n.toNat [] w1
   refine JJ.pull 1 rfl rfl ?_
   refine JJ.pull 4 rfl rfl ?_
   refine JJ.pull 4 rfl rfl ?_
   refine JJ.pull 3 rfl rfl ?_
   refine JJ.pull 4 rfl rfl ?_
   refine JJ.res (fun h q => Sat.packn (L1 := [_, _, _]) q) ?_
   refine JJ.pull 1 rfl rfl ?_
   refine JJ.call (Lc := [_, _]) (Lr := [_]) bo25 rg rfl rfl rfl rfl (often _ bw pm w1 x.n 26 [] [.pointer (some ⟨b1, 0, none⟩), .pointer (some ⟨b22, 0, none⟩), .pointer (some ⟨b2, 0, none⟩)] _ (fun w_ => rec kn1 w_ x.body) g C C M hM1 hg hC1 (by omega) hw1 (fun w_ h1 h2 h3 => hfit (by omega) kn1 w_ x.body h1 (by omega)) bo26 (fun I2 l2 w_ h1 h2 h3 => blk1 pm C g pf rec (hrec (by omega)) I2 bw b1 b2 b22 p1 kn1 x A13 A16 A19 cp14 cp17 cp20 (dp + 1) (hk1.mono l2) ((hpm.mono hle).mono l2) (hx18.mono l2) (St.ok_b hokx) (by omega) w_ h1)) (fun _ q => q) fun ⟨A9, c9⟩ I23 hle24 hres => ?_
   dsimp only [List.cons_append, List.nil_append] at hres ⊢
   refine JJ.pull 1 rfl rfl ?_
   refine JJ.unpack ?_
   dsimp only [List.cons_append, List.nil_append]
   generalize hr : oftenF (fun w_ => rec kn1 w_ x.body) x.n.toNat [] w1 = r at hres hstep hoft hoflen ⊢
   simp only [List.length_nil, Nat.zero_add] at hoflen
   obtain ⟨css27, hq28, hs29, hl30⟩ := Rq.of (hres)
   refine JJ.appendQ (css := css) (newsL := css27) (ds := out) (ms := r.1) eo23 io35 rfl 4 rg rfl rfl rfl rfl rfl (SrcOk.ofSl sl23 hs29 hl30 (Rq.one hq28 (fun _ _ _ r => r.one))) rfl (by omega) fun A25 c26 => ?_
   have hq31 : RTq I23 (css ++ css27) (out ++ r.1) := Rq.app ((hq.mono hle24)) hq28
   dsimp only [List.set]
   refine JJ.assign rg rfl rfl rfl ?_
   refine JJ.regionEnd ?_
   refine JJ.exit rfl ?_
   refine JJ.region rfl fun rg => ?_
   refine JJ.binI (z := ((i + 1 : Nat) : Int)) rg rfl rfl rfl rfl rfl (wrap_to (by omega) (by omega) (by omega)) ?_
   refine JJ.move rg rfl rfl rfl ?_
   refine JJ.regionEnd ?_
   refine JJ.pull 1 rfl rfl ?_
   refine JJ.drop ?_
   refine JJ.pull 2 rfl rfl ?_
   refine JJ.pull 2 rfl rfl ?_
   refine JJ.pull 2 rfl rfl ?_
   refine JJ.pull 3 rfl rfl ?_
   obtain ⟨a1, a2, a3, a4, a5, a6⟩ := hoft
   have hlow2 : -17600776036352 + ((l.length - (i + 1) : Nat) : Int) ≤ r.2.left := by by_cases h9 : w1.left ≤ 0; (have := a2 h9; omega); (have := a3 (by omega); omega)
   refine JJ.keep _ ?_ (ih (i + 1, I23, A25, c26, (css ++ css27), (out ++ r.1), r.2, p1, kn1) ⟨by omega, (hle.trans hle24), hq31, (hk1.mono hle24), ⟨by dsimp only; omega, by have := hw1.hi; dsimp only; omega, a5, a6⟩, by dsimp only; omega, hlow2, by simp only [List.length_append, List.length_cons, List.length_nil]; omega, hstep⟩ (by dsimp only; omega))
   repeat (first | exact trivial | refine ⟨rfl, ?_⟩)
  ·
   have hc6b := hc6
   replace hc6 := of_decide_eq_false hc6
   rw [decide_eq_false hc6, cond_false] at hstep
   refine JJ.seq ?_
   refine JJ.region rfl fun rg => ?_
   refine JJ.bin rg rfl rfl rfl rfl rfl ?_
   refine JJ.assign rg rfl rfl rfl ?_
   refine JJ.regionEnd ?_
   refine JJ.cond2 rfl (fun hc8 => ?_) (fun hc8 => ?_)
   ·
    have hc8b := hc8
    replace hc8 := of_decide_eq_true hc8
    rw [decide_eq_true hc8, cond_true] at hstep
    refine JJ.seq ?_
    refine JJ.region rfl fun rg => ?_
    refine JJ.move rg rfl rfl rfl ?_
    refine JJ.loadL (v := .pointer (some ⟨bw, 0, none⟩)) ty45 2 rg rfl rfl rfl rfl rfl ?_
    refine JJ.makeFunc rg rfl rfl [].toArray [.pointer (some ⟨b1, 0, none⟩), .pointer (some ⟨b22, 0, none⟩)].toArray (fun a hE => by simp []) (fun a hE => by simp [hE.ev (o := .tmp 3) (v := .pointer (some ⟨b1, 0, none⟩)) rfl, hE.ev (o := .tmp 9) (v := .pointer (some ⟨b22, 0, none⟩)) rfl]) ?_
    have hoft := often_fit (C := C) (M := M) (f := g) (N := C) (by omega) hg hC1 (Fb := fun w_ => rec [] w_ (pf x.s)) (fun w_ h1 h2 h3 => hfit (by omega) [] w_ (pf x.s) h1 (hpC _)) 1 [] w1 hw1 hM1
    have hoflen := often_len (fun w_ => rec [] w_ (pf x.s)) 1 [] w1
    refine JJ.pull 3 rfl rfl ?_
    refine JJ.pull 2 rfl rfl ?_
    refine JJ.pull 4 rfl rfl ?_
    refine JJ.pull 3 rfl rfl ?_
    refine JJ.pull 4 rfl rfl ?_
    refine JJ.res (fun h q => Sat.packn (L1 := [_, _]) q) ?_
    refine JJ.pull 1 rfl rfl ?_
    refine JJ.call (Lc := [_, _]) (Lr := [_, _]) bo25 rg rfl rfl rfl rfl (often _ bw pm w1 1 27 [] [.pointer (some ⟨b1, 0, none⟩), .pointer (some ⟨b22, 0, none⟩)] _ (fun w_ => rec [] w_ (pf x.s)) g C C M hM1 hg hC1 (by omega) hw1 (fun w_ h1 h2 h3 => hfit (by omega) [] w_ (pf x.s) h1 (hpC _)) bo27 (fun I2 l2 w_ h1 h2 h3 => blk2 pm C g pf rec (hrec (by omega)) I2 bw b1 b2 b22 x A13 A16 A19 cp14 cp17 cp20 1 ((hpm.mono hle).mono l2) (hpok _) (hpC _) w_ h1)) (fun _ q => q) fun ⟨A9, c9⟩ I32 hle33 hres => ?_
    dsimp only [List.cons_append, List.nil_append] at hres ⊢
    rw [show (1 : Int).toNat = 1 from rfl] at hres ⊢
    refine JJ.pull 1 rfl rfl ?_
    refine JJ.unpack ?_
    dsimp only [List.cons_append, List.nil_append]
    generalize hr : oftenF (fun w_ => rec [] w_ (pf x.s)) 1 [] w1 = r at hres hstep hoft hoflen ⊢
    simp only [List.length_nil, Nat.zero_add] at hoflen
    obtain ⟨css36, hq37, hs38, hl39⟩ := Rq.of (hres)
    refine JJ.appendQ (css := css) (newsL := css36) (ds := out) (ms := r.1) eo23 io35 rfl 3 rg rfl rfl rfl rfl rfl (SrcOk.ofSl sl23 hs38 hl39 (Rq.one hq37 (fun _ _ _ r => r.one))) rfl (by omega) fun A34 c35 => ?_
    have hq40 : RTq I32 (css ++ css36) (out ++ r.1) := Rq.app ((hq.mono hle33)) hq37
    dsimp only [List.set]
    refine JJ.assign rg rfl rfl rfl ?_
    refine JJ.regionEnd ?_
    refine JJ.exit rfl ?_
    refine JJ.region rfl fun rg => ?_
    refine JJ.binI (z := ((i + 1 : Nat) : Int)) rg rfl rfl rfl rfl rfl (wrap_to (by omega) (by omega) (by omega)) ?_
    refine JJ.move rg rfl rfl rfl ?_
    refine JJ.regionEnd ?_
    refine JJ.pull 1 rfl rfl ?_
    refine JJ.drop ?_
    refine JJ.pull 1 rfl rfl ?_
    refine JJ.pull 3 rfl rfl ?_
    refine JJ.pull 2 rfl rfl ?_
    refine JJ.pull 3 rfl rfl ?_
    obtain ⟨a1, a2, a3, a4, a5, a6⟩ := hoft
    have hlow2 : -17600776036352 + ((l.length - (i + 1) : Nat) : Int) ≤ r.2.left := by by_cases h9 : w1.left ≤ 0; (have := a2 h9; omega); (have := a3 (by omega); omega)
    refine JJ.keep _ ?_ (ih (i + 1, I32, A34, c35, (css ++ css36), (out ++ r.1), r.2, p1, kn1) ⟨by omega, (hle.trans hle33), hq40, (hk1.mono hle33), ⟨by dsimp only; omega, by have := hw1.hi; dsimp only; omega, a5, a6⟩, by dsimp only; omega, hlow2, by simp only [List.length_append, List.length_cons, List.length_nil]; omega, hstep⟩ (by dsimp only; omega))
    repeat (first | exact trivial | refine ⟨rfl, ?_⟩)
   ·
    have hc8b := hc8
    replace hc8 := of_decide_eq_false hc8
    rw [decide_eq_false hc8, cond_false] at hstep
    refine JJ.skip ?_
    refine JJ.inBlock ?_
    refine JJ.seq ?_
    refine JJ.seq ?_
    refine JJ.region rfl fun rg => ?_
    refine JJ.loadL (v := .pointer (some ⟨bw, 0, none⟩)) ty45 2 rg rfl rfl rfl rfl rfl ?_
    refine JJ.nilCheck rg rfl rfl rfl ?_
    refine JJ.fieldAddr (a' := ⟨bw, 1, none⟩) fo47_1 rg rfl rfl rfl rfl ?_
    refine JJ.loadL (v := .int .i64 (w1.left)) ty3 4 rg rfl rfl rfl rfl rfl ?_
    refine JJ.binI (z := IntKind.i64.wrap (w1.left - 1)) rg rfl rfl rfl rfl rfl rfl ?_
    refine JJ.nilCheck rg rfl rfl rfl ?_
    refine JJ.fieldAddr (a' := ⟨bw, 1, none⟩) fo47_1 rg rfl rfl rfl rfl ?_
    refine JJ.store (cs' := [.map (Option.some pm), .int .i64 (IntKind.i64.wrap (w1.left - 1)), .int .i64 (w1.vars)]) ty3 4 rg rfl rfl rfl rfl rfl rfl rfl rfl rfl rfl rfl ?_
    refine JJ.regionEnd ?_
    refine JJ.seq ?_
    refine JJ.region rfl fun rg => ?_
    refine JJ.loadL (v := .pointer (some ⟨bw, 0, none⟩)) ty45 2 rg rfl rfl rfl rfl rfl ?_
    refine JJ.nilCheck rg rfl rfl rfl ?_
    refine JJ.fieldAddr (a' := ⟨bw, 1, none⟩) fo47_1 rg rfl rfl rfl rfl ?_
    refine JJ.loadL (v := .int .i64 (IntKind.i64.wrap (w1.left - 1))) ty3 4 rg rfl rfl rfl rfl rfl ?_
    refine JJ.bin rg rfl rfl rfl rfl rfl ?_
    refine JJ.regionEnd ?_
    refine JJ.cond2 rfl (fun hc11 => ?_) (fun hc11 => ?_)
    ·
     have hc11b := hc11
     replace hc11 := of_decide_eq_true hc11
     rw [decide_eq_true (show w1.dec.left < 0 from hc11), cond_true] at hstep
     have hfin := hstep
     refine JJ.seq ?_
     refine JJ.region rfl fun rg => ?_
     refine JJ.move rg rfl rfl rfl ?_
     refine JJ.assign rg rfl rfl rfl ?_
     refine JJ.regionEnd ?_
     refine JJ.pull 1 rfl rfl ?_
     refine JJ.shareOwn fun I41 hle42 hs43 => ?_
     have hx44 : RTs I41 (A1o) (out).length c1o out := RSl.of hs43 rfl (hq.mono hle42)
     refine JJ.drop ?_
     refine JJ.drop ?_
     refine JJ.drop ?_
     exact JJ.ret1 rfl Try.func13 rfl rfl (fun h q => ⟨(A1o, c1o), by rw [hfin]; exact hx44, by rw [hfin], by rw [hfin]; exact q⟩)
    ·
     have hc11b := hc11
     replace hc11 := of_decide_eq_false hc11
     have hnn : ¬ w1.dec.left < 0 := hc11
     rw [decide_eq_false hnn, cond_false] at hstep
     have hok1 : w1.dec.ok g := ⟨by omega, by have := hw1.hi; omega, hw1.v0, hw1.v1⟩
     have hofit := one_fit hC1 (hfit (by omega)) (kn := kn1) (s := x) hg hok1 (by omega) (by omega) (by omega) (by omega)
     obtain ⟨q, hqd⟩ : ∃ q, q = (bif decide (x.op = 12) then letK kn1 x.s w1.dec.vars else (x.s, kn1, w1.dec.vars)) := ⟨_, rfl⟩
     refine JJ.skip ?_
     refine JJ.seq ?_
     refine JJ.region rfl fun rg => ?_
     refine JJ.loadL (v := .agg #[.int .i64 (x.op), .string (x.s), .int .i64 (x.n), .slice (A13) ((x.e).length) (cp14), .slice (A16) ((x.body).length) (cp17), .slice (A19) ((x.els).length) (cp20), .bool (x.commit)]) ty35 0 rg rfl rfl rfl rfl rfl ?_
     refine JJ.alloc (cs := [.int .i64 0, .string (⟨#[]⟩), .int .i64 0, .slice (none) (0) (0), .slice (none) (0) (0), .slice (none) (0) (0), .bool false]) zo35 rfl rg rfl rfl fun b45 => ?_
     refine JJ.store (cs' := [.int .i64 (x.op), .string (x.s), .int .i64 (x.n), .slice (A13) ((x.e).length) (cp14), .slice (A16) ((x.body).length) (cp17), .slice (A19) ((x.els).length) (cp20), .bool (x.commit)]) ty35 0 rg rfl rfl rfl rfl rfl rfl rfl rfl rfl rfl rfl ?_
     refine JJ.regionEnd ?_
     refine JJ.seq ?_
     refine JJ.region rfl fun rg => ?_
     refine JJ.fieldAddr (a' := ⟨b22, 3, none⟩) fo35_3 rg rfl rfl rfl rfl ?_
     refine JJ.loadL (v := .slice (A13) ((x.e).length) (cp14)) ty33 1 rg rfl rfl rfl rfl rfl ?_
     refine JJ.build (cells := #[.int .i64 0, .string (⟨#[]⟩), .int .i64 0, .slice (A13) ((x.e).length) (cp14), .slice (none) (0) (0), .slice (none) (0) (0), .bool false]) zo35 so35 rg rfl rfl rfl rfl ?_
     refine JJ.buildSlice (cs := [.int .i64 0, .string (⟨#[]⟩), .int .i64 0, .slice (A13) ((x.e).length) (cp14), .slice (none) (0) (0), .slice (none) (0) (0), .bool false]) eo23 zo35 rg rfl rfl rfl rfl rfl rfl rfl fun b46 => ?_
     refine JJ.build (cells := #[.slice (none) (0) (0), .slice (some ⟨b46, 0, none⟩) (1) (1), .slice (none) (0) (0), .slice (none) (0) (0)]) zo26 so26 rg rfl rfl rfl rfl ?_
     (try dsimp only [List.set])
     refine JJ.share fun I47 hle48 hb49 => ?_
     have hrow50 : Row I47 ⟨b46, 0, none⟩ [.int .i64 0, .string (⟨#[]⟩), .int .i64 0, .slice (A13) ((x.e).length) (cp14), .slice (none) (0) (0), .slice (none) (0) (0), .bool false] := Row.of hb49 0
     clear hb49
     have hx51 : RTs I47 (some ⟨b46, 0, none⟩) ([St.mk 0 (⟨#[]⟩) 0 x.e ([] : List St) ([] : List St) false]).length 1 [St.mk 0 (⟨#[]⟩) 0 x.e ([] : List St) ([] : List St) false] := RSl.of (css := [[.int .i64 0, .string (⟨#[]⟩), .int .i64 0, .slice (A13) ((x.e).length) (cp14), .slice (none) (0) (0), .slice (none) (0) (0), .bool false]]) (.inr ⟨_, rfl, by simp, by simpa using hrow50⟩) rfl (.cons ⟨rfl, (RT.mk (hx15.mono hle48) RTs.nil RTs.nil)⟩ .nil)
     (try dsimp only [List.set])
     obtain ⟨kc, hkc⟩ := RP.k (RP.mk RQs.nil hx51 RTs.nil ROs.nil)
     refine JJ.call (Lc := []) (Lr := [_, _, _, _, _, _]) bo14 rg rfl rfl rfl rfl (Wo.Clone kc _ _ _ hkc (by simp only [Pg.sz, Pc.szl, St.szl, St.sz, Oc.szl]; omega)) (fun _ q => q) fun cs9 I52 hle53 _ => ?_
     dsimp only [List.cons_append, List.nil_append]
     refine JJ.clone1 fun k9 Aa ca g9 cb Ac cc Ad cd A9 c9 v4 v5 v6 hcs9 => ?_
     subst hcs9
     refine JJ.field (v := .slice (Option.some ⟨g9, 0, none⟩) (1) (cb)) ft26_1 ty23 rg rfl rfl rfl rfl ?_
     refine JJ.indexAddr (a' := ⟨g9, 0, none⟩) eo23 rg rfl rfl rfl rfl (by omega) (by omega) rfl ?_
     refine JJ.fieldAddr (a' := ⟨g9, 3, none⟩) fo35_3 rg rfl rfl rfl rfl ?_
     refine JJ.loadOwn (v := .slice (A9) ((x.e).length) (c9)) ty33 0 rg rfl rfl rfl rfl rfl ?_
     refine JJ.fieldAddr (a' := ⟨b45, 3, none⟩) fo35_3 rg rfl rfl rfl rfl ?_
     refine JJ.store (cs' := [.int .i64 (x.op), .string (x.s), .int .i64 (x.n), .slice (A9) ((x.e).length) (c9), .slice (A16) ((x.body).length) (cp17), .slice (A19) ((x.els).length) (cp20), .bool (x.commit)]) ty33 2 rg rfl rfl rfl rfl rfl rfl rfl rfl rfl rfl rfl ?_
     refine JJ.regionEnd ?_
     refine JJ.drop ?_
     refine JJ.seq ?_
     refine JJ.seq ?_
     refine JJ.region rfl fun rg => ?_
     refine JJ.fieldAddr (a' := ⟨b45, 3, none⟩) fo35_3 rg rfl rfl rfl rfl ?_
     refine JJ.loadL (v := .slice (A9) ((x.e).length) (c9)) ty33 1 rg rfl rfl rfl rfl rfl ?_
     refine JJ.lenSlice ss33 rg rfl rfl rfl ?_
     refine JJ.move rg rfl rfl rfl ?_
     refine JJ.regionEnd ?_
     refine JJ.block ?_
     refine JJ.induct (X := Nat × Hp) (fun z => [(3, .pointer (some ⟨b1, 0, none⟩)), (5, .pointer (some ⟨b2, 0, none⟩)), (7, .slice (A1o) ((out).length) (c1o)), (9, .pointer (some ⟨b22, 0, none⟩)), (10, .pointer (some ⟨b45, 0, none⟩)), (12, .slice (A) ((l).length) (cp)), (13, .int .i64 (((l.length : Nat) : Int))), (14, .int .i64 (((i : Nat) : Int))), (63, .int .i64 ((((x.e).length : Nat) : Int))), (64, .int .i64 ((z.1 : Nat) : Int))]) (fun z => z.2) (fun z => [OSl (OE 53 k9) 53 4 A9 x.e.length c9 ((x.e.take z.1).map (Ex.ren kn1) ++ x.e.drop z.1), blk b45 (.cells ([.int .i64 (x.op), .string (x.s), .int .i64 (x.n), .slice (A9) ((x.e).length) (c9), .slice (A16) ((x.body).length) (cp17), .slice (A19) ((x.els).length) (cp20), .bool (x.commit)]).toArray 35), blk b22 (.cells ([.int .i64 (x.op), .string (x.s), .int .i64 (x.n), .slice (A13) ((x.e).length) (cp14), .slice (A16) ((x.body).length) (cp17), .slice (A19) ((x.els).length) (cp20), .bool (x.commit)]).toArray 35), own 35 7 (A1o) (out).length c1o (css).flatten, blk b1 (.cells ([.pointer (some ⟨bw, 0, none⟩)]).toArray 45), blk b2 (.cells ([.pointer (p1)]).toArray 68), blk bw (.cells ([.map (Option.some pm), .int .i64 (IntKind.i64.wrap (w1.left - 1)), .int .i64 (w1.vars)]).toArray 47)])
      (fun z => z.1 ≤ x.e.length ∧ Hp.le I52 z.2) (fun z => x.e.length - z.1) (0, I52) ⟨Nat.zero_le _, .refl _⟩ (fun h => JJ.keep _ (by repeat (first | exact trivial | refine ⟨rfl, ?_⟩)) h) ?_
     rintro ⟨j, I3⟩ ⟨hj, hle3⟩ ihl
     dsimp only at hj hle3 ihl ⊢
     refine JJ.seq ?_
     refine JJ.region rfl fun rg => ?_
     refine JJ.bin rg rfl rfl rfl rfl rfl ?_
     refine JJ.regionEnd ?_
     refine JJ.seq ?_
     refine JJ.cond2 rfl (fun hc16 => ?_) (fun hc16 => ?_)
     ·
      have hc16b := hc16
      replace hc16 := of_decide_eq_true hc16
      have hlt3 : j < x.e.length := by omega
      obtain ⟨y, hy3⟩ : ∃ y, x.e[j]? = Option.some y := ⟨_, List.getElem?_eq_getElem hlt3⟩
      have hyz := Ex.szl_mem (List.mem_of_getElem? hy3)
      refine JJ.skip ?_
      refine JJ.seq ?_
      refine JJ.block ?_
      refine JJ.seq ?_
      refine JJ.region rfl fun rg => ?_
      refine JJ.move rg rfl rfl rfl ?_
      refine JJ.assign rg rfl rfl rfl ?_
      refine JJ.regionEnd ?_
      refine OSl.some (by omega) fun gb3 hA3 hcp3 => ?_
      refine JJ.draw (m := 5) [(3, .pointer (some ⟨b1, 0, none⟩)), (5, .pointer (some ⟨b2, 0, none⟩)), (7, .slice (A1o) ((out).length) (c1o)), (9, .pointer (some ⟨b22, 0, none⟩)), (10, .pointer (some ⟨b45, 0, none⟩)), (11, .int .i64 (((j : Nat) : Int))), (12, .slice (A) ((l).length) (cp)), (13, .int .i64 (((l.length : Nat) : Int))), (14, .int .i64 (((i : Nat) : Int))), (63, .int .i64 ((((x.e).length : Nat) : Int))), (64, .int .i64 (((j : Nat) : Int)))]
       (fun i => match i with | 0 => fun _ v => v = .pointer (p1) | 1 => fun _ v => v = .pointer (some ⟨b45, 3, none⟩) | 2 => fun _ v => v = .slice (A9) ((x.e).length) (c9) | 3 => fun _ v => v = .int .i64 (((j : Nat) : Int)) | 4 => fun _ v => v = .pointer (some ⟨gb3, j * 4, none⟩) | _ => fun _ _ => False) mx rfl rfl ?_ (by repeat (first | exact trivial | refine ⟨rfl, ?_⟩)) (fun rg => ?_) (fun rg => ?_)
      ·
       rintro (_ | _ | _ | _ | _ | i) I1_ I2_ v l h
       · exact h
       · exact h
       · exact h
       · exact h
       · exact h
       · exact h
      ·
       refine ⟨?_, ?_, ?_, ?_, ?_, trivial⟩
       ·
        intro is E2 I2_ hle_ hb hd kk_
        obtain ⟨hb3, hb5, hb7, hb9, hb10, hb11, hb12, hb13, hb14, hb63, hb64, -⟩ := hb
        refine JJ.loadL (v := .pointer (p1)) ty68 5 rg rfl rfl hb5 rfl rfl (kk_ _ _ (.refl _) rfl)
       ·
        intro is E2 I2_ hle_ hb hd kk_
        obtain ⟨hb3, hb5, hb7, hb9, hb10, hb11, hb12, hb13, hb14, hb63, hb64, -⟩ := hb
        refine JJ.fieldAddr (a' := ⟨b45, 3, none⟩) fo35_3 rg rfl rfl hb10 rfl (kk_ _ _ (.refl _) rfl)
       ·
        intro is E2 I2_ hle_ hb hd kk_
        obtain ⟨hb3, hb5, hb7, hb9, hb10, hb11, hb12, hb13, hb14, hb63, hb64, -⟩ := hb
        obtain ⟨d1, v1, e1, g1, s1⟩ := hd 1 (by decide)
        cases e1
        subst s1
        refine JJ.loadL (v := .slice (A9) ((x.e).length) (c9)) ty33 1 rg rfl rfl g1 rfl rfl (kk_ _ _ (.refl _) rfl)
       ·
        intro is E2 I2_ hle_ hb hd kk_
        obtain ⟨hb3, hb5, hb7, hb9, hb10, hb11, hb12, hb13, hb14, hb63, hb64, -⟩ := hb
        refine JJ.move rg rfl rfl hb11 (kk_ _ _ (.refl _) rfl)
       ·
        intro is E2 I2_ hle_ hb hd kk_
        obtain ⟨hb3, hb5, hb7, hb9, hb10, hb11, hb12, hb13, hb14, hb63, hb64, -⟩ := hb
        obtain ⟨d2, v2, e2, g2, s2⟩ := hd 2 (by decide)
        cases e2
        subst s2
        obtain ⟨d3, v3, e3, g3, s3⟩ := hd 3 (by decide)
        cases e3
        subst s3
        refine JJ.indexAddrA hA3 (a' := ⟨gb3, j * 4, none⟩) eo33 rg rfl rfl g2 g3 (by omega) (by omega) (by rw [Addr.add_lit]; simp) (kk_ _ _ (.refl _) rfl)
      intro vs I55 hle54 hs_
      obtain ⟨hv0, hv1, hv2, hv3, hv4, -⟩ := hs_
      refine JJ.keep [(3, .pointer (some ⟨b1, 0, none⟩)), (5, .pointer (some ⟨b2, 0, none⟩)), (7, .slice (A1o) ((out).length) (c1o)), (9, .pointer (some ⟨b22, 0, none⟩)), (10, .pointer (some ⟨b45, 0, none⟩)), (12, .slice (A) ((l).length) (cp)), (13, .int .i64 (((l.length : Nat) : Int))), (14, .int .i64 (((i : Nat) : Int))), (63, .int .i64 ((((x.e).length : Nat) : Int))), (64, .int .i64 (((j : Nat) : Int))), (67, .pointer (p1)), (71, .pointer (some ⟨gb3, j * 4, none⟩))] ⟨rfl, rfl, rfl, rfl, rfl, rfl, rfl, rfl, rfl, rfl, congrArg some hv0, congrArg some hv4, trivial⟩ ?_
      have hrec3 := ren _ _ p1 kn1 k9 gb3 c9 j ((x.e.take j).map (Ex.ren kn1) ++ x.e.drop j) y (hk1.mono (hle48.trans (hle53.trans (hle3.trans hle54)))) (get_ren hy3) (by omega) (Nat.lt_succ_self _)
      rw [take_ren hy3, show ((x.e.take j).map (Ex.ren kn1) ++ x.e.drop j).length = x.e.length from by simp; omega, ← hA3] at hrec3
      refine JJ.call (Lc := [_]) (Lr := [_, _, _, _, _, _]) bo28 rg rfl rfl rfl rfl hrec3 (fun _ q => q) fun _ I56 hle57 _ => ?_
      dsimp only [List.cons_append, List.nil_append]
      refine JJ.regionEnd ?_
      refine JJ.inBlock ?_
      refine JJ.region rfl fun rg => ?_
      refine JJ.binI (z := ((j + 1 : Nat) : Int)) rg rfl rfl rfl rfl rfl (wrap_to (by omega) (by omega) (by omega)) ?_
      refine JJ.move rg rfl rfl rfl ?_
      refine JJ.regionEnd ?_
      refine JJ.keep _ ?_ (ihl (j + 1, _) ⟨hlt3, (hle3.trans (hle54.trans hle57))⟩ (by dsimp only; omega))
      repeat (first | exact trivial | refine ⟨rfl, ?_⟩)
     ·
      have hc16b := hc16
      replace hc16 := of_decide_eq_false hc16
      obtain rfl : j = x.e.length := by omega
      rw [List.take_length, List.drop_length, List.append_nil]
      refine JJ.freeze (Q := fun I => RXs I A9 x.e.length c9 (x.e.map (Ex.ren kn1))) (fun h s => REs.x (OSl.read (fun _ _ _ => OE.read) (fun _ _ _ _ l r => r.mono l) s)) (fun _ _ l r => r.mono l) fun I4 hle4 hxe => ?_
      refine JJ.exit rfl ?_
      refine JJ.seq ?_
      refine JJ.seq ?_
      refine JJ.region rfl fun rg => ?_
      refine JJ.fieldAddr (a' := ⟨b22, 0, none⟩) fo35_0 rg rfl rfl rfl rfl ?_
      refine JJ.loadL (v := .int .i64 (x.op)) ty3 1 rg rfl rfl rfl rfl rfl ?_
      refine JJ.bin rg rfl rfl rfl rfl rfl ?_
      refine JJ.regionEnd ?_
      have hq0 : (bif decide (x.op = 12) then letK kn1 x.s w1.dec.vars else (x.s, kn1, w1.dec.vars)) = q := hqd.symm
      refine JJ.cond2 rfl (fun hc20 => ?_) (fun hc20 => ?_)
      ·
       have hc20b := hc20
       replace hc20 := of_decide_eq_true hc20
       rw [decide_eq_true hc20, cond_true] at hqd
       have hvq : -9223372036854775808 ≤ q.2.2 ∧ q.2.2 ≤ 9223372036854775807 := by rw [hqd]; exact letK_v hw1.v0 hw1.v1
       refine JJ.region rfl fun rg => ?_
       refine JJ.loadL (v := .pointer (some ⟨bw, 0, none⟩)) ty45 3 rg rfl rfl rfl rfl rfl ?_
       refine JJ.loadL (v := .pointer (p1)) ty68 4 rg rfl rfl rfl rfl rfl ?_
       refine JJ.pull 4 rfl rfl ?_
       refine JJ.pull 4 rfl rfl ?_
       refine JJ.pull 4 rfl rfl ?_
       refine JJ.pull 4 rfl rfl ?_
       refine JJ.pull 4 rfl rfl ?_
       refine JJ.pull 5 rfl rfl ?_
       refine JJ.call (Lc := [_, _]) (Lr := [_, _, _, _]) bo29 rg rfl rfl rfl rfl (let_ _ p1 kn1 (hk1.mono (hle48.trans (hle53.trans (hle3.trans hle4)))) bw pm w1.dec b45 (.int .i64 (x.op)) (.int .i64 (x.n)) (.slice (A9) ((x.e).length) (c9)) (.slice (A16) ((x.body).length) (cp17)) (.slice (A19) ((x.els).length) (cp20)) (.bool (x.commit)) x.s hw1.v0 hw1.v1) (fun _ q => q) fun p2 I58 hle59 hk2 => ?_
       dsimp only [List.cons_append, List.nil_append] at hk2 ⊢
       rw [← hqd] at hk2 ⊢
       refine JJ.store (cs' := [.pointer (p2)]) ty68 5 rg rfl rfl rfl rfl rfl rfl rfl rfl rfl rfl rfl ?_
       refine JJ.regionEnd ?_
       refine JJ.seq ?_
       refine JJ.region rfl fun rg => ?_
       refine JJ.loadL (v := .pointer (some ⟨bw, 0, none⟩)) ty45 4 rg rfl rfl rfl rfl rfl ?_
       refine JJ.fieldAddr (a' := ⟨b22, 4, none⟩) fo35_4 rg rfl rfl rfl rfl ?_
       refine JJ.loadL (v := .slice (A16) ((x.body).length) (cp17)) ty23 2 rg rfl rfl rfl rfl rfl ?_
       refine JJ.loadL (v := .pointer (p2)) ty68 5 rg rfl rfl rfl rfl rfl ?_
       have hbfit := hfit (by omega) q.2.1 ⟨w1.dec.left, q.2.2⟩ x.body ⟨hok1.lo, hok1.hi, hvq.1, hvq.2⟩ (by omega)
       refine JJ.call (Lc := [_]) (Lr := [_, _, _, _, _]) bo13 rg rfl rfl rfl rfl (hrec (by omega) _ bw p2 q.2.1 ⟨w1.dec.left, q.2.2⟩ A16 cp17 x.body (dp + 1) hk2 (hpm.mono (hle.trans (hle48.trans (hle53.trans (hle3.trans (hle4.trans hle59)))))) (hx18.mono (hle48.trans (hle53.trans (hle3.trans (hle4.trans hle59))))) (St.ok_b hokx) (by omega) ⟨hok1.lo, hok1.hi, hvq.1, hvq.2⟩) (fun _ q => q) fun ⟨Ab, cb⟩ I60 hle61 hbr => ?_
       dsimp only [List.cons_append, List.nil_append] at hbr ⊢
       generalize hb1 : rec q.2.1 ⟨w1.dec.left, q.2.2⟩ x.body = b at hbr hbfit ⊢
       refine JJ.fieldAddr (a' := ⟨b45, 4, none⟩) fo35_4 rg rfl rfl rfl rfl ?_
       refine JJ.store (cs' := [.int .i64 (x.op), .string (q.1), .int .i64 (x.n), .slice (A9) ((x.e).length) (c9), .slice (Ab) ((b.1).length) (cb), .slice (A19) ((x.els).length) (cp20), .bool (x.commit)]) ty23 1 rg rfl rfl rfl rfl rfl rfl rfl rfl rfl rfl rfl ?_
       refine JJ.regionEnd ?_
       refine JJ.seq ?_
       refine JJ.region rfl fun rg => ?_
       refine JJ.loadL (v := .pointer (some ⟨bw, 0, none⟩)) ty45 4 rg rfl rfl rfl rfl rfl ?_
       refine JJ.fieldAddr (a' := ⟨b22, 5, none⟩) fo35_5 rg rfl rfl rfl rfl ?_
       refine JJ.loadL (v := .slice (A19) ((x.els).length) (cp20)) ty23 2 rg rfl rfl rfl rfl rfl ?_
       refine JJ.loadL (v := .pointer (p2)) ty68 5 rg rfl rfl rfl rfl rfl ?_
       have hbok : b.2.ok g := ⟨by by_cases h9 : w1.dec.left ≤ 0; (have h10 := hbfit.neg h9; dsimp only at h10; omega); (have h10 := hbfit.pos (show (1 : Int) ≤ w1.dec.left by omega); omega), by have := hbfit.le; have := hok1.hi; dsimp only at *; omega, hbfit.v0, hbfit.v1⟩
       have hf2fit := hfit (by omega) q.2.1 b.2 x.els hbok (by omega)
       refine JJ.call (Lc := [_]) (Lr := [_, _, _, _, _]) bo13 rg rfl rfl rfl rfl (hrec (by omega) _ bw p2 q.2.1 b.2 A19 cp20 x.els (dp + 1) (hk2.mono hle61) (hpm.mono (hle.trans (hle48.trans (hle53.trans (hle3.trans (hle4.trans (hle59.trans hle61))))))) (hx21.mono (hle48.trans (hle53.trans (hle3.trans (hle4.trans (hle59.trans hle61)))))) (St.ok_f hokx) (by omega) hbok) (fun _ q => q) fun ⟨Af2, cf2⟩ I62 hle63 hf2r => ?_
       dsimp only [List.cons_append, List.nil_append] at hf2r ⊢
       generalize hb2 : rec q.2.1 b.2 x.els = f2 at hf2r hf2fit ⊢
       refine JJ.fieldAddr (a' := ⟨b45, 5, none⟩) fo35_5 rg rfl rfl rfl rfl ?_
       refine JJ.store (cs' := [.int .i64 (x.op), .string (q.1), .int .i64 (x.n), .slice (A9) ((x.e).length) (c9), .slice (Ab) ((b.1).length) (cb), .slice (Af2) ((f2.1).length) (cf2), .bool (x.commit)]) ty23 1 rg rfl rfl rfl rfl rfl rfl rfl rfl rfl rfl rfl ?_
       refine JJ.regionEnd ?_
       refine JJ.region rfl fun rg => ?_
       refine JJ.move rg rfl rfl rfl ?_
       refine JJ.loadL (v := .agg #[.int .i64 (x.op), .string (q.1), .int .i64 (x.n), .slice (A9) ((x.e).length) (c9), .slice (Ab) ((b.1).length) (cb), .slice (Af2) ((f2.1).length) (cf2), .bool (x.commit)]) ty35 1 rg rfl rfl rfl rfl rfl ?_
       refine JJ.buildSlice (cs := [.int .i64 (x.op), .string (q.1), .int .i64 (x.n), .slice (A9) ((x.e).length) (c9), .slice (Ab) ((b.1).length) (cb), .slice (Af2) ((f2.1).length) (cf2), .bool (x.commit)]) eo23 zo35 rg rfl rfl rfl rfl rfl rfl rfl fun b64 => ?_
       refine JJ.appendQ (css := css) (newsL := [[.int .i64 (x.op), .string (q.1), .int .i64 (x.n), .slice (A9) ((x.e).length) (c9), .slice (Ab) ((b.1).length) (cb), .slice (Af2) ((f2.1).length) (cf2), .bool (x.commit)]]) (ds := out) (ms := [St.mk x.op q.1 x.n (x.e.map (Ex.ren kn1)) b.1 f2.1 x.commit]) eo23 io35 rfl 4 rg rfl rfl rfl rfl rfl (SrcOk.ofLit (news := [.int .i64 (x.op), .string (q.1), .int .i64 (x.n), .slice (A9) ((x.e).length) (c9), .slice (Ab) ((b.1).length) (cb), .slice (Af2) ((f2.1).length) (cf2), .bool (x.commit)]) sl23 0 rfl rfl (by simp [Value.oneCell'])) rfl (by omega) fun A65 c66 => ?_
       have hq67 : RTq I62 (css ++ [[.int .i64 (x.op), .string (q.1), .int .i64 (x.n), .slice (A9) ((x.e).length) (c9), .slice (Ab) ((b.1).length) (cb), .slice (Af2) ((f2.1).length) (cf2), .bool (x.commit)]]) (out ++ [St.mk x.op q.1 x.n (x.e.map (Ex.ren kn1)) b.1 f2.1 x.commit]) := Rq.app ((hq.mono (hle48.trans (hle53.trans (hle3.trans (hle4.trans (hle59.trans (hle61.trans hle63)))))))) (All2.cons ⟨rfl, (RT.mk (hxe.mono (hle59.trans (hle61.trans hle63))) (hbr.mono hle63) hf2r)⟩ .nil)
       dsimp only [List.set]
       refine JJ.assign rg rfl rfl rfl ?_
       refine JJ.regionEnd ?_
       refine JJ.inBlock ?_
       refine JJ.region rfl fun rg => ?_
       refine JJ.binI (z := ((i + 1 : Nat) : Int)) rg rfl rfl rfl rfl rfl (wrap_to (by omega) (by omega) (by omega)) ?_
       refine JJ.move rg rfl rfl rfl ?_
       refine JJ.regionEnd ?_
       refine JJ.drop ?_
       refine JJ.pull 1 rfl rfl ?_
       refine JJ.drop ?_
       refine JJ.pull 1 rfl rfl ?_
       refine JJ.drop ?_
       refine JJ.pull 3 rfl rfl ?_
       refine JJ.pull 3 rfl rfl ?_
       refine JJ.pull 3 rfl rfl ?_
       have hone : oneF rec x w1.dec kn1 = (St.mk x.op q.1 x.n (x.e.map (Ex.ren kn1)) b.1 f2.1 x.commit, f2.2, q.2.1) := by unfold oneF; rw [hq0, ← hb2, ← hb1]
       rw [hone] at hstep hofit
       obtain ⟨a1, a2, a3, a4, a5⟩ := hofit
       dsimp only at a1 a2 a3 a4 a5 hstep
       refine JJ.keep _ ?_ (ih (i + 1, I62, A65, c66, (css ++ [[.int .i64 (x.op), .string (q.1), .int .i64 (x.n), .slice (A9) ((x.e).length) (c9), .slice (Ab) ((b.1).length) (cb), .slice (Af2) ((f2.1).length) (cf2), .bool (x.commit)]]), (out ++ [St.mk x.op q.1 x.n (x.e.map (Ex.ren kn1)) b.1 f2.1 x.commit]), f2.2, p2, q.2.1) ⟨by omega, (hle.trans (hle48.trans (hle53.trans (hle3.trans (hle4.trans (hle59.trans (hle61.trans hle63))))))), hq67, (hk2.mono (hle61.trans hle63)), ⟨by dsimp only; omega, by have := hw1.hi; dsimp only; omega, a4, a5⟩, by dsimp only; omega, by dsimp only; omega, by simp only [List.length_append, List.length_cons, List.length_nil]; omega, hstep⟩ (by dsimp only; omega))
       repeat (first | exact trivial | refine ⟨rfl, ?_⟩)
      ·
       have hc20b := hc20
       replace hc20 := of_decide_eq_false hc20
       rw [decide_eq_false hc20, cond_false] at hqd
       have hvq : -9223372036854775808 ≤ q.2.2 ∧ q.2.2 ≤ 9223372036854775807 := by rw [hqd]; exact ⟨hw1.v0, hw1.v1⟩
       have hq1 : x.s = q.1 := by rw [hqd]
       have hq2 : kn1 = q.2.1 := by rw [hqd]
       have hq3 : w1.vars = q.2.2 := by rw [hqd]; rfl
       have hk2 : RK I4 p1 q.2.1 := by rw [← hq2]; exact (hk1.mono (hle48.trans (hle53.trans (hle3.trans hle4))))
       refine JJ.res (L' := [blk b45 (.cells ([.int .i64 (x.op), .string (q.1), .int .i64 (x.n), .slice (A9) ((x.e).length) (c9), .slice (A16) ((x.body).length) (cp17), .slice (A19) ((x.els).length) (cp20), .bool (x.commit)]).toArray 35), blk b22 (.cells ([.int .i64 (x.op), .string (x.s), .int .i64 (x.n), .slice (A13) ((x.e).length) (cp14), .slice (A16) ((x.body).length) (cp17), .slice (A19) ((x.els).length) (cp20), .bool (x.commit)]).toArray 35), own 35 7 (A1o) (out).length c1o (css).flatten, blk b1 (.cells ([.pointer (some ⟨bw, 0, none⟩)]).toArray 45), blk b2 (.cells ([.pointer (p1)]).toArray 68), blk bw (.cells ([.map (Option.some pm), .int .i64 (w1.dec.left), .int .i64 (q.2.2)]).toArray 47)]) (fun h s => by rw [← hq1, ← hq3]; exact s) ?_
       refine JJ.skip ?_
       refine JJ.seq ?_
       refine JJ.region rfl fun rg => ?_
       refine JJ.loadL (v := .pointer (some ⟨bw, 0, none⟩)) ty45 3 rg rfl rfl rfl rfl rfl ?_
       refine JJ.fieldAddr (a' := ⟨b22, 4, none⟩) fo35_4 rg rfl rfl rfl rfl ?_
       refine JJ.loadL (v := .slice (A16) ((x.body).length) (cp17)) ty23 1 rg rfl rfl rfl rfl rfl ?_
       refine JJ.loadL (v := .pointer (p1)) ty68 4 rg rfl rfl rfl rfl rfl ?_
       refine JJ.pull 4 rfl rfl ?_
       refine JJ.pull 4 rfl rfl ?_
       refine JJ.pull 4 rfl rfl ?_
       refine JJ.pull 4 rfl rfl ?_
       refine JJ.pull 4 rfl rfl ?_
       refine JJ.pull 5 rfl rfl ?_
       have hbfit := hfit (by omega) q.2.1 ⟨w1.dec.left, q.2.2⟩ x.body ⟨hok1.lo, hok1.hi, hvq.1, hvq.2⟩ (by omega)
       refine JJ.call (Lc := [_]) (Lr := [_, _, _, _, _]) bo13 rg rfl rfl rfl rfl (hrec (by omega) _ bw p1 q.2.1 ⟨w1.dec.left, q.2.2⟩ A16 cp17 x.body (dp + 1) hk2 (hpm.mono (hle.trans (hle48.trans (hle53.trans (hle3.trans hle4))))) (hx18.mono (hle48.trans (hle53.trans (hle3.trans hle4)))) (St.ok_b hokx) (by omega) ⟨hok1.lo, hok1.hi, hvq.1, hvq.2⟩) (fun _ q => q) fun ⟨Ab, cb⟩ I68 hle69 hbr => ?_
       dsimp only [List.cons_append, List.nil_append] at hbr ⊢
       generalize hb1 : rec q.2.1 ⟨w1.dec.left, q.2.2⟩ x.body = b at hbr hbfit ⊢
       refine JJ.fieldAddr (a' := ⟨b45, 4, none⟩) fo35_4 rg rfl rfl rfl rfl ?_
       refine JJ.store (cs' := [.int .i64 (x.op), .string (q.1), .int .i64 (x.n), .slice (A9) ((x.e).length) (c9), .slice (Ab) ((b.1).length) (cb), .slice (A19) ((x.els).length) (cp20), .bool (x.commit)]) ty23 1 rg rfl rfl rfl rfl rfl rfl rfl rfl rfl rfl rfl ?_
       refine JJ.regionEnd ?_
       refine JJ.seq ?_
       refine JJ.region rfl fun rg => ?_
       refine JJ.loadL (v := .pointer (some ⟨bw, 0, none⟩)) ty45 4 rg rfl rfl rfl rfl rfl ?_
       refine JJ.fieldAddr (a' := ⟨b22, 5, none⟩) fo35_5 rg rfl rfl rfl rfl ?_
       refine JJ.loadL (v := .slice (A19) ((x.els).length) (cp20)) ty23 2 rg rfl rfl rfl rfl rfl ?_
       refine JJ.loadL (v := .pointer (p1)) ty68 5 rg rfl rfl rfl rfl rfl ?_
       have hbok : b.2.ok g := ⟨by by_cases h9 : w1.dec.left ≤ 0; (have h10 := hbfit.neg h9; dsimp only at h10; omega); (have h10 := hbfit.pos (show (1 : Int) ≤ w1.dec.left by omega); omega), by have := hbfit.le; have := hok1.hi; dsimp only at *; omega, hbfit.v0, hbfit.v1⟩
       have hf2fit := hfit (by omega) q.2.1 b.2 x.els hbok (by omega)
       refine JJ.call (Lc := [_]) (Lr := [_, _, _, _, _]) bo13 rg rfl rfl rfl rfl (hrec (by omega) _ bw p1 q.2.1 b.2 A19 cp20 x.els (dp + 1) (hk2.mono hle69) (hpm.mono (hle.trans (hle48.trans (hle53.trans (hle3.trans (hle4.trans hle69)))))) (hx21.mono (hle48.trans (hle53.trans (hle3.trans (hle4.trans hle69))))) (St.ok_f hokx) (by omega) hbok) (fun _ q => q) fun ⟨Af2, cf2⟩ I70 hle71 hf2r => ?_
       dsimp only [List.cons_append, List.nil_append] at hf2r ⊢
       generalize hb2 : rec q.2.1 b.2 x.els = f2 at hf2r hf2fit ⊢
       refine JJ.fieldAddr (a' := ⟨b45, 5, none⟩) fo35_5 rg rfl rfl rfl rfl ?_
       refine JJ.store (cs' := [.int .i64 (x.op), .string (q.1), .int .i64 (x.n), .slice (A9) ((x.e).length) (c9), .slice (Ab) ((b.1).length) (cb), .slice (Af2) ((f2.1).length) (cf2), .bool (x.commit)]) ty23 1 rg rfl rfl rfl rfl rfl rfl rfl rfl rfl rfl rfl ?_
       refine JJ.regionEnd ?_
       refine JJ.region rfl fun rg => ?_
       refine JJ.move rg rfl rfl rfl ?_
       refine JJ.loadL (v := .agg #[.int .i64 (x.op), .string (q.1), .int .i64 (x.n), .slice (A9) ((x.e).length) (c9), .slice (Ab) ((b.1).length) (cb), .slice (Af2) ((f2.1).length) (cf2), .bool (x.commit)]) ty35 1 rg rfl rfl rfl rfl rfl ?_
       refine JJ.buildSlice (cs := [.int .i64 (x.op), .string (q.1), .int .i64 (x.n), .slice (A9) ((x.e).length) (c9), .slice (Ab) ((b.1).length) (cb), .slice (Af2) ((f2.1).length) (cf2), .bool (x.commit)]) eo23 zo35 rg rfl rfl rfl rfl rfl rfl rfl fun b72 => ?_
       refine JJ.appendQ (css := css) (newsL := [[.int .i64 (x.op), .string (q.1), .int .i64 (x.n), .slice (A9) ((x.e).length) (c9), .slice (Ab) ((b.1).length) (cb), .slice (Af2) ((f2.1).length) (cf2), .bool (x.commit)]]) (ds := out) (ms := [St.mk x.op q.1 x.n (x.e.map (Ex.ren kn1)) b.1 f2.1 x.commit]) eo23 io35 rfl 4 rg rfl rfl rfl rfl rfl (SrcOk.ofLit (news := [.int .i64 (x.op), .string (q.1), .int .i64 (x.n), .slice (A9) ((x.e).length) (c9), .slice (Ab) ((b.1).length) (cb), .slice (Af2) ((f2.1).length) (cf2), .bool (x.commit)]) sl23 0 rfl rfl (by simp [Value.oneCell'])) rfl (by omega) fun A73 c74 => ?_
       have hq75 : RTq I70 (css ++ [[.int .i64 (x.op), .string (q.1), .int .i64 (x.n), .slice (A9) ((x.e).length) (c9), .slice (Ab) ((b.1).length) (cb), .slice (Af2) ((f2.1).length) (cf2), .bool (x.commit)]]) (out ++ [St.mk x.op q.1 x.n (x.e.map (Ex.ren kn1)) b.1 f2.1 x.commit]) := Rq.app ((hq.mono (hle48.trans (hle53.trans (hle3.trans (hle4.trans (hle69.trans hle71))))))) (All2.cons ⟨rfl, (RT.mk (hxe.mono (hle69.trans hle71)) (hbr.mono hle71) hf2r)⟩ .nil)
       dsimp only [List.set]
       refine JJ.assign rg rfl rfl rfl ?_
       refine JJ.regionEnd ?_
       refine JJ.inBlock ?_
       refine JJ.region rfl fun rg => ?_
       refine JJ.binI (z := ((i + 1 : Nat) : Int)) rg rfl rfl rfl rfl rfl (wrap_to (by omega) (by omega) (by omega)) ?_
       refine JJ.move rg rfl rfl rfl ?_
       refine JJ.regionEnd ?_
       refine JJ.drop ?_
       refine JJ.pull 1 rfl rfl ?_
       refine JJ.drop ?_
       refine JJ.pull 1 rfl rfl ?_
       refine JJ.drop ?_
       refine JJ.pull 3 rfl rfl ?_
       refine JJ.pull 3 rfl rfl ?_
       refine JJ.pull 3 rfl rfl ?_
       have hone : oneF rec x w1.dec kn1 = (St.mk x.op q.1 x.n (x.e.map (Ex.ren kn1)) b.1 f2.1 x.commit, f2.2, q.2.1) := by unfold oneF; rw [hq0, ← hb2, ← hb1]
       rw [hone] at hstep hofit
       obtain ⟨a1, a2, a3, a4, a5⟩ := hofit
       dsimp only at a1 a2 a3 a4 a5 hstep
       refine JJ.keep _ ?_ (ih (i + 1, I70, A73, c74, (css ++ [[.int .i64 (x.op), .string (q.1), .int .i64 (x.n), .slice (A9) ((x.e).length) (c9), .slice (Ab) ((b.1).length) (cb), .slice (Af2) ((f2.1).length) (cf2), .bool (x.commit)]]), (out ++ [St.mk x.op q.1 x.n (x.e.map (Ex.ren kn1)) b.1 f2.1 x.commit]), f2.2, p1, q.2.1) ⟨by omega, (hle.trans (hle48.trans (hle53.trans (hle3.trans (hle4.trans (hle69.trans hle71)))))), hq75, (hk2.mono (hle69.trans hle71)), ⟨by dsimp only; omega, by have := hw1.hi; dsimp only; omega, a4, a5⟩, by dsimp only; omega, by dsimp only; omega, by simp only [List.length_append, List.length_cons, List.length_nil]; omega, hstep⟩ (by dsimp only; omega))
       repeat (first | exact trivial | refine ⟨rfl, ?_⟩)
 ·
  have hc3b := hc3
  replace hc3 := of_decide_eq_false hc3
  have hfin : blkF rec pf l [] w kn = (out, w1) := by rw [hbf, List.drop_of_length_le (by omega)]; rfl
  refine JJ.exit rfl ?_
  refine JJ.seq ?_
  refine JJ.region rfl fun rg => ?_
  refine JJ.move rg rfl rfl rfl ?_
  refine JJ.assign rg rfl rfl rfl ?_
  refine JJ.regionEnd ?_
  refine JJ.shareOwn fun I76 hle77 hs78 => ?_
  have hx79 : RTs I76 (A1o) (out).length c1o out := RSl.of hs78 rfl (hq.mono hle77)
  refine JJ.drop ?_
  refine JJ.drop ?_
  exact JJ.ret1 rfl Try.func13 rfl rfl (fun h q => ⟨(A1o, c1o), by rw [hfin]; exact hx79, by rw [hfin], by rw [hfin]; exact q⟩)
theorem blk (pm C : Nat) (pf : ByteArray → List St) (hC1 : C ≤ 4294967296) (hpC : ∀ s, St.szl (pf s) + 2 ≤ C) (hpok : ∀ s, St.okl (pf s) 1 = true) : ∀ f ≤ 256, BLK pm C f pf (F_blk pf f) := by
  intro f
  induction f with
  | zero =>
    intro _ I bw p kn w A cp l dp hk hpm hl hok hC hw
    exact blk_step pm C 0 pf (fun _ w _ => ([], w)) w.left (by decide) hC1 hpC hpok (fun h => absurd hw.hi (by omega)) (fun h => absurd hw.hi (by omega)) I bw p kn w A cp l dp hk hpm hl hok hC ⟨hw.lo, by have := hw.hi; omega, hw.v0, hw.v1⟩ (Int.le_refl _)
  | succ f ih =>
    intro hf I bw p kn w A cp l dp hk hpm hl hok hC hw
    exact blk_step pm C f pf (F_blk pf f) w.left hf hC1 hpC hpok (fun _ => ih (by omega)) (fun _ kn w l h1 h2 => F_blk_fit hC1 hpC f (by omega) kn w l h1 h2) I bw p kn w A cp l dp hk hpm hl hok hC hw (Int.le_refl _)
end Wp
end Go.Proofs.Ytlcdafeoionnhaa
