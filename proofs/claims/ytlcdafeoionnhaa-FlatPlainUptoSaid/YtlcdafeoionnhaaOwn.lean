/- Slices of one's own: their elements written. -/
import Derived.Test.YtlcdafeoionnhaaIter
namespace Go.Proofs.Ytlcdafeoionnhaa
open Go
set_option linter.unusedSimpArgs false
set_option linter.unusedVariables false
theorem put_take {α : Type} {l vs : List α} {off N : Nat} (h : off + vs.length ≤ N) (hN : N ≤ l.length) : (l.take off ++ vs ++ l.drop (off + vs.length)).take N = (l.take N).take off ++ vs ++ (l.take N).drop (off + vs.length) := by
  have hl : (l.take off ++ vs).length = off + vs.length := by rw [List.length_append, List.length_take]; omega
  rw [List.take_append, List.take_of_length_le (by omega), hl, List.take_take, Nat.min_eq_left (by omega), List.drop_take]
theorem stC_at {cur : List Value} {vs : List Value} {off : Nat} (h : off + vs.length ≤ cur.length) : stC cur.toArray off vs = (cur.take off ++ vs ++ cur.drop (off + vs.length)).toArray := by
  have e : cur = cur.take off ++ (cur.drop off).take vs.length ++ cur.drop (off + vs.length) := by
    rw [List.append_assoc, ← List.drop_drop, List.take_append_drop, List.take_append_drop]
  have hl : (cur.take off).length = off := by rw [List.length_take]; omega
  have h1 := stC_gen vs (cur.take off) (cur.drop (off + vs.length)) ((cur.drop off).take vs.length) (by rw [List.length_take, List.length_drop]; omega)
  rw [hl, ← e] at h1
  exact h1
section
variable {c : Cx} {K : List Item} {E : List (Nat × Value)} {D : List Deferred} {I : Hp} {L : List HP} {ops : Array Oper} {i : Nat} {is : List Nat}
variable {dst : Option Nat} {ty : TypeId} {pos : String} {aft : Array Edge} {gd : Option (Nat × Bool)}
theorem JJ.ownSome {e : TypeId} {sz : Nat} {A : Option Addr} {n cp : Nat} {xs : List Value} (h0 : 0 < n) (h : ∀ g, A = some ⟨g, 0, none⟩ → n ≤ cp → xs.length = n * sz → JJ c K E D I (own e sz A n cp xs :: L)) : JJ c K E D I (own e sz A n cp xs :: L) := by
  intro a w hh k hE hS hR
  obtain ⟨h1, h2, l1, l2, d, ⟨hl, hc⟩, s2⟩ := id hS
  rcases hc with ⟨_, rfl, _⟩ | ⟨g, cur, rfl, hb, hn, _⟩
  · omega
  · exact h g rfl hn hl a w hh k hE hS hR
theorem JJ.storeOwn {T e : TypeId} {gg : Bool} {nn sz : Nat} (ht : tyI c.P T = some (gg, nn)) {x y : Operand} {g off n cp : Nat} {xs vs : List Value} {v : Value} (j : Nat) (rg : Reg c.N ops) (ho : ops[i]? = some ⟨none, .store T x y, ty, pos, aft, gd⟩) (hg : wants ops E gd = some true)
    (hx : evE E x = some (.pointer (some ⟨g, off, none⟩))) (hy : evE E y = some v) (hj : L[j]? = some (own e sz (some ⟨g, 0, none⟩) n cp xs)) (hvs : v.cells = vs.toArray) (hn : vs.length = nn) (hone : ∀ u ∈ vs, u.oneCell' = true) (hlen : off + vs.length ≤ xs.length)
    (hJ : JJ c (.inRegion ops is :: K) E D I (L.set j (own e sz (some ⟨g, 0, none⟩) n cp (xs.take off ++ vs ++ xs.drop (off + vs.length))))) : JJ c (.inRegion ops (i :: is) :: K) E D I L := by
  refine JJ.op (X := Unit) (I' := fun _ => I) (L' := fun _ => L.set j (own e sz (some ⟨g, 0, none⟩) n cp (xs.take off ++ vs ++ xs.drop (off + vs.length)))) rg ho hg (fun _ e => by cases e) (fun _ => True) (fun _ => undef) (fun a w h k hE hS hR => ?_) fun _ _ => hJ
  have hjl : j < L.length := (List.getElem?_eq_some_iff.1 hj).1
  have hS' := hS.pull j hj
  obtain ⟨h1, h2, l1, l2, d, ⟨hl, hc⟩, s2⟩ := id hS'
  rcases hc with ⟨hA, _⟩ | ⟨g', cur, hA, hb, hnc, hcs, htk⟩
  · cases hA
  · cases hA
    have hle : n * sz ≤ cur.size := by rw [hcs]; exact Nat.mul_le_mul_right _ hnc
    obtain ⟨w', hr, ho', hs', hk', hb'⟩ := storeCells_run (P := c.P) vs w cur off 0 (hR.hon _ _ (l1 _ _ hb)) (by simp only [Nat.add_zero]; omega) hone
    rw [Nat.add_zero] at hb'
    refine ⟨(), .skip, w', h.set g _, trivial, ?_, .inr ⟨rfl, rfl⟩, Sat.put j hjl (Sat.own_write hS' fun h3 e3 => ⟨?_, .inr ⟨g, _, rfl, e3, hnc, by rw [stC_size, hcs], ?_⟩⟩), hR.write (l1 _ _ hb) hs' hk' hb', .refl _, ho'⟩
    · simp [execOp, hE.ev hx, hE.ev hy, Instr.storeAt, Instr.sureAddr, storeVar, tyI_size ht, hvs, hn, hr]
    · simp only [List.length_append, List.length_take, List.length_drop]; omega
    · have e1 : cur = cur.toList.toArray := by simp
      have h9 : cur.toList.length = cur.size := Array.length_toList
      rw [e1, stC_at (by omega), List.toList_toArray, put_take (by omega) (by omega), htk]
/-- A load of an element of a slice of one's own. -/
theorem JJ.loadOwn {T e : TypeId} {gg : Bool} {nn sz : Nat} (ht : tyI c.P T = some (gg, nn)) {x : Operand} {g off n cp : Nat} {xs : List Value} {v : Value} (j : Nat) (rg : Reg c.N ops) (ho : ops[i]? = some ⟨dst, .load T x, ty, pos, aft, gd⟩) (hg : wants ops E gd = some true)
    (hx : evE E x = some (.pointer (some ⟨g, off, none⟩))) (hj : L[j]? = some (own e sz (some ⟨g, 0, none⟩) n cp xs)) (hv : ldV gg nn (xs.drop off) = some v) (hJ : JJ c (.inRegion ops is :: K) (putE dst v E) D I L) : JJ c (.inRegion ops (i :: is) :: K) E D I L :=
  JJ.op0 rg ho hg (fun _ e => by cases e) (fun A w h k hE hS hR => by
    obtain ⟨h1, h2, l1, _, _, ⟨hl, hc⟩, _⟩ := hS.pull j hj
    rcases hc with ⟨hA, _⟩ | ⟨g', cur, hA, hb, hnc, hcs, htk⟩
    · cases hA
    · cases hA
      have hr : Row h1 ⟨g, off, none⟩ (xs.drop off) := by
        refine ⟨rfl, cur, e, (0, 0), hb, fun jj u hu => ?_⟩
        rw [List.getElem?_drop, ← htk, List.getElem?_take] at hu
        split at hu
        · simpa using hu
        · cases hu
      exact ⟨.value v, by simp [execOp, hE.ev hx, Instr.loadAt, Instr.sureAddr, loadVar_run ht hr (hR.hon.mono l1) hv], .inl rfl⟩) hJ
/-- A block is a slice of one's own. -/
theorem JJ.blkOwn {b n sz : Nat} {cs : List Value} {e : TypeId} (hl : cs.length = n * sz) (h : JJ c K E D I (own e sz (some ⟨b, 0, none⟩) n n cs :: L)) : JJ c K E D I (blk b (.cells cs.toArray e) :: L) :=
  JJ.res (fun h s => by
    obtain ⟨h1, h2, l1, l2, d, hb, s2⟩ := s
    exact ⟨h1, h2, l1, l2, d, ⟨hl, .inr ⟨b, cs.toArray, rfl, hb, Nat.le_refl _, by simpa using hl, by rw [List.toList_toArray, ← hl, List.take_length]⟩⟩, s2⟩) h
end
end Go.Proofs.Ytlcdafeoionnhaa
