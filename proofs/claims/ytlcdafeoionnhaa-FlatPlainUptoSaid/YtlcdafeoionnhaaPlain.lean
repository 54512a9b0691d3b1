/- FlatPlain's answer is 'true': in plain Lean. -/
import Derived.Test.YtlcdafeoionnhaaTwice
import Derived.Test.YtlcdafeoionnhaaWq
namespace Go.Proofs.Ytlcdafeoionnhaa
open Go Vc Va Wn Wp Wq
set_option linter.unusedSimpArgs false
set_option linter.unusedVariables false
theorem drop_at {α : Type} {l r : List α} {i : Nat} {a d : α} (h : l.drop i = a :: r) : l.getD i d = a ∧ l.drop (i + 1) = r ∧ a ∈ l := by
  have h1 : l[i]? = some a := by
    have := congrArg (fun t => t[0]?) h
    simpa [List.getElem?_drop] using this
  have h2 := (drop_cons h1).symm.trans h
  exact ⟨by simp [List.getD, h1], (List.cons.inj h2).2, List.mem_of_getElem? h1⟩
theorem sameX_loop {y : Ex} (h : ∀ a ∈ y.x, F_sameX a a = true) : ∀ (l : List Ex) (i : Nat), y.x.drop i = l → F_sameX_l0 y i l = .inr ()
  | [], i, _ => by rw [F_sameX_l0]
  | a :: l, i, e => by
    obtain ⟨e1, e2, e3⟩ := drop_at (d := default) e
    rw [F_sameX_l0, e1, h a e3]
    exact sameX_loop h l (i + 1) e2
theorem sameX_refl : ∀ (n : Nat) (x : Ex), x.sz ≤ n → F_sameX x x = true
  | 0, x, h => by have := x.sz_eq; omega
  | n + 1, x, h => by
    rw [F_sameX, sameX_loop (fun a ha => sameX_refl n a (by have := Ex.szl_mem ha; have := x.sz_eq; omega)) x.x 0 rfl]
    simp
theorem sameS_loop {y : St} : ∀ (l : List Ex) (i : Nat), y.e.drop i = l → F_sameS_l0 y i l = .inr ()
  | [], i, _ => by rw [F_sameS_l0]
  | a :: l, i, e => by
    obtain ⟨e1, e2, e3⟩ := drop_at (d := default) e
    rw [F_sameS_l0, e1, sameX_refl _ a (Nat.le_refl _)]
    exact sameS_loop l (i + 1) e2
theorem sameB_loop {b : List St} (h : ∀ a ∈ b, F_sameS a a = true) : ∀ (l : List St) (i : Nat), b.drop i = l → F_sameB_l0 b i l = .inr ()
  | [], i, _ => by rw [F_sameB_l0]
  | a :: l, i, e => by
    obtain ⟨e1, e2, e3⟩ := drop_at (d := default) e
    rw [F_sameB_l0, e1, h a e3]
    exact sameB_loop h l (i + 1) e2
theorem sameB_of {b : List St} (h : ∀ a ∈ b, F_sameS a a = true) : F_sameB b b = true := by
  rw [F_sameB, sameB_loop h b 0 rfl]; simp
theorem sameS_refl : ∀ (n : Nat) (x : St), x.sz ≤ n → F_sameS x x = true
  | 0, x, h => by have := x.sz_eq; omega
  | n + 1, x, h => by
    have hx := x.sz_eq
    rw [F_sameS, sameS_loop x.e 0 rfl, sameB_of (fun a ha => sameS_refl n a (by have := St.szl_mem ha; omega)), sameB_of (fun a ha => sameS_refl n a (by have := St.szl_mem ha; omega))]
    simp
theorem sameB_refl (b : List St) : F_sameB b b = true := sameB_of fun a _ => sameS_refl _ a (Nat.le_refl _)
theorem same_loop0 {q : Pg} : ∀ (l : List Pc) (i : Nat), q.procs.drop i = l → F_same_l0 q i l = .inr ()
  | [], i, _ => by rw [F_same_l0]
  | a :: l, i, e => by
    obtain ⟨e1, e2, e3⟩ := drop_at (d := default) e
    rw [F_same_l0, e1, sameB_refl]
    simp only [decide_true, Bool.not_true, Bool.or_self, cond_false]
    exact same_loop0 l (i + 1) e2
theorem same_loop2 {q : Pg} : ∀ (l : List Oc) (i : Nat), q.oracles.drop i = l → F_same_l2 q i l = .inr ()
  | [], i, _ => by rw [F_same_l2]
  | a :: l, i, e => by
    obtain ⟨e1, e2, e3⟩ := drop_at (d := default) e
    rw [F_same_l2, e1, sameX_refl _ a.e (Nat.le_refl _)]
    simp only [decide_true, Bool.not_true, Bool.or_self, cond_false]
    exact same_loop2 l (i + 1) e2
theorem same_refl (q : Pg) : F_same q q = true := by
  rw [F_same, same_loop0 q.procs 0 rfl, same_loop2 q.oracles 0 rfl, sameB_refl, sameB_refl]
  simp
theorem flat_loop : ∀ (l : List St), (∀ s ∈ l, s.op ≠ 14 ∧ s.op ≠ 15) → F_flatPlain_l0 l = .inr ()
  | [], _ => rfl
  | a :: l, h => by
    have ha := h a (by simp)
    rw [F_flatPlain_l0, decide_eq_false ha.1, decide_eq_false ha.2]
    exact flat_loop l fun s hs => h s (by simp [hs])
theorem flat_cases (p : Pg) : F_flat p = (Pg.mk [] [] [] [], false) ∨ (F_flat p = (flatQ p, true) ∧ F_boundCheck p = (0, 0) ∧ 0 ≤ (F_blk (pfOf p.procs) 256 [] ⟨256, 0⟩ p.main).2.left ∧ 0 ≤ (F_blk (pfOf p.procs) 256 [] ⟨256, 0⟩ p.recover).2.left ∧ F_boundCheck (flatQ p) = (0, 0)) := by
  by_cases h1 : F_boundCheck p = (0, 0)
  · by_cases h2 : 0 ≤ (F_blk (pfOf p.procs) 256 [] ⟨256, 0⟩ p.main).2.left
    · by_cases h3 : 0 ≤ (F_blk (pfOf p.procs) 256 [] ⟨256, 0⟩ p.recover).2.left
      · by_cases h4 : F_boundCheck (flatQ p) = (0, 0)
        · refine .inr ⟨?_, h1, h2, h3, h4⟩
          unfold F_flat
          rw [decide_eq_true (show ((F_boundCheck p).1, (F_boundCheck p).2) = ((0, 0) : Int × Int) from h1), decide_eq_true h2, decide_eq_true h3]
          rw [decide_eq_true (show ((F_boundCheck (Pg.mk [] (F_blk (pfOf p.procs) 256 [] ⟨256, 0⟩ p.main).1 (F_blk (pfOf p.procs) 256 [] ⟨256, 0⟩ p.recover).1 p.oracles)).1, (F_boundCheck (Pg.mk [] (F_blk (pfOf p.procs) 256 [] ⟨256, 0⟩ p.main).1 (F_blk (pfOf p.procs) 256 [] ⟨256, 0⟩ p.recover).1 p.oracles)).2) = ((0, 0) : Int × Int) from h4)]
          rfl
        · left
          unfold F_flat
          rw [decide_eq_true (show ((F_boundCheck p).1, (F_boundCheck p).2) = ((0, 0) : Int × Int) from h1)]
          rw [decide_eq_false (show ¬ ((F_boundCheck (Pg.mk [] (F_blk (pfOf p.procs) 256 [] ⟨256, 0⟩ p.main).1 (F_blk (pfOf p.procs) 256 [] ⟨256, 0⟩ p.recover).1 p.oracles)).1, (F_boundCheck (Pg.mk [] (F_blk (pfOf p.procs) 256 [] ⟨256, 0⟩ p.main).1 (F_blk (pfOf p.procs) 256 [] ⟨256, 0⟩ p.recover).1 p.oracles)).2) = ((0, 0) : Int × Int) from h4)]
          rw [Bool.not_false, Bool.or_true]; rfl
      · left; unfold F_flat
        rw [decide_eq_true (show ((F_boundCheck p).1, (F_boundCheck p).2) = ((0, 0) : Int × Int) from h1), decide_eq_false h3, Bool.and_false]; rfl
    · left; unfold F_flat
      rw [decide_eq_true (show ((F_boundCheck p).1, (F_boundCheck p).2) = ((0, 0) : Int × Int) from h1), decide_eq_false h2, Bool.false_and]; rfl
  · left; unfold F_flat
    rw [decide_eq_false (show ¬ ((F_boundCheck p).1, (F_boundCheck p).2) = ((0, 0) : Int × Int) from h1)]; rfl
theorem flat_tw {p : Pg} (hz : p.sz ≤ 4194304) {l : List St} (hl : St.szl l ≤ p.sz) (h : 0 ≤ (F_blk (pfOf p.procs) 256 [] ⟨256, 0⟩ l).2.left) : Tw (F_blk (pfOf []) 256 []) ⟨256, 0⟩ (F_blk (pfOf p.procs) 256 [] ⟨256, 0⟩ l) :=
  F_blk_two (C := p.sz + 2) (by omega) (fun s => by have := pf_sz (p := p) s; omega) 256 (Nat.le_refl _) [] [] ⟨256, 0⟩ l ⟨by decide, by decide, by decide, by decide⟩ (by omega) ⟨fun e he => by (cases he), fun e he => by (cases he), fun e he => by (cases he)⟩ h
theorem flat_again {p : Pg} (hz : p.sz ≤ 4194304) (h1 : 0 ≤ (F_blk (pfOf p.procs) 256 [] ⟨256, 0⟩ p.main).2.left) (h2 : 0 ≤ (F_blk (pfOf p.procs) 256 [] ⟨256, 0⟩ p.recover).2.left) (h3 : F_boundCheck (flatQ p) = (0, 0)) : flatQ (flatQ p) = flatQ p ∧ F_flat (flatQ p) = (flatQ p, true) ∧ ∀ s ∈ (flatQ p).alls, s.op ≠ 14 ∧ s.op ≠ 15 := by
  have hy : p.sz = Pc.szl p.procs + St.szl p.main + St.szl p.recover + Oc.szl p.oracles := rfl
  have t1 := flat_tw hz (l := p.main) (by omega) h1
  have t2 := flat_tw hz (l := p.recover) (by omega) h2
  have e1 : F_blk (pfOf (flatQ p).procs) 256 [] ⟨256, 0⟩ (flatQ p).main = F_blk (pfOf p.procs) 256 [] ⟨256, 0⟩ p.main := t1.id
  have e2 : F_blk (pfOf (flatQ p).procs) 256 [] ⟨256, 0⟩ (flatQ p).recover = F_blk (pfOf p.procs) 256 [] ⟨256, 0⟩ p.recover := t2.id
  have e3 : flatQ (flatQ p) = flatQ p := by
    show Pg.mk [] (F_blk (pfOf (flatQ p).procs) 256 [] ⟨256, 0⟩ (flatQ p).main).1 (F_blk (pfOf (flatQ p).procs) 256 [] ⟨256, 0⟩ (flatQ p).recover).1 p.oracles = _
    rw [e1, e2]; rfl
  refine ⟨e3, ?_, ?_⟩
  · rcases flat_cases (flatQ p) with h | h
    · exfalso
      have h9 : F_flat (flatQ p) = (flatQ p, true) := by
        unfold F_flat
        rw [e1, e2, decide_eq_true (show ((F_boundCheck (flatQ p)).1, (F_boundCheck (flatQ p)).2) = ((0, 0) : Int × Int) from h3), decide_eq_true h1, decide_eq_true h2]
        show (bif _ || !decide (((F_boundCheck (flatQ p)).1, (F_boundCheck (flatQ p)).2) = ((0, 0) : Int × Int)) then _ else (flatQ p, true)) = _
        rw [decide_eq_true (show ((F_boundCheck (flatQ p)).1, (F_boundCheck (flatQ p)).2) = ((0, 0) : Int × Int) from h3)]
        rfl
      rw [h] at h9
      exact Bool.false_ne_true (congrArg Prod.snd h9)
    · rw [h.1, e3]
  · intro s hs
    have e : (flatQ p).alls = St.alls (F_blk (pfOf p.procs) 256 [] ⟨256, 0⟩ p.main).1 ++ (St.alls (F_blk (pfOf p.procs) 256 [] ⟨256, 0⟩ p.recover).1 ++ []) := rfl
    rw [e, List.append_nil] at hs
    rcases List.mem_append.1 hs with h | h
    · exact t1.n s h
    · exact t2.n s h
theorem flatPlain_true {p : Pg} (hz : p.sz ≤ 4194304) : F_flatPlain p = true := by
  unfold F_flatPlain
  rw [knows_true]
  cases F_small p
  · rfl
  · simp only [Bool.not_true, Bool.or_self, cond_false]
    rcases flat_cases p with h | ⟨h, hc, h1, h2, h3⟩
    · rw [h]; exact same_refl _
    · obtain ⟨e1, e2, e3⟩ := flat_again hz h1 h2 h3
      rw [h]
      dsimp only
      rw [flat_loop _ e3, e2]
      dsimp only
      rw [same_refl, h3, hc, show (flatQ p).procs = [] from rfl, show (flatQ p).oracles = p.oracles from rfl, same_refl]
      rfl
theorem flat_bounds {p : Pg} (hz : p.sz ≤ 4194304) : (flatQ p).sz ≤ 4294967280 ∧ (F_flat p).1.sz ≤ 4294967280 ∧ (flatQ (F_flat p).1).sz ≤ 4294967280 ∧ (F_flat (F_flat p).1).1.sz ≤ 4294967280 := by
  have h0 := part_sz hz
  have z : (Pg.mk [] [] [] []).sz = 0 := rfl
  have h1 := part_sz (p := Pg.mk [] [] [] []) (by rw [z]; omega)
  refine ⟨by omega, ?_⟩
  rcases flat_cases p with h | ⟨h, hc, l1, l2, h3⟩
  · rw [h]
    dsimp only
    refine ⟨by rw [z]; omega, by omega, ?_⟩
    rcases flat_cases (Pg.mk [] [] [] []) with h | ⟨h, _⟩
    · rw [h, z]; omega
    · rw [h]; dsimp only; omega
  · obtain ⟨e1, e2, e3⟩ := flat_again hz l1 l2 h3
    rw [h]
    dsimp only
    rw [e1, e2]
    dsimp only
    omega
end Go.Proofs.Ytlcdafeoionnhaa
