/- Resources that are so for some x; the checker's scopes as they lie in memory. -/
import Derived.Test.YtlcdafeoionnhaaSpecB
namespace Go.Proofs.Ytlcdafeoionnhaa
open Go
set_option linter.unusedVariables false
set_option linter.unusedSimpArgs false
/-- For some x. -/
def exR {X : Type} (P : X → List HP) : HP := fun h => ∃ x, Sat (P x) h
theorem JJ.exOpen {c : Cx} {K : List Item} {E : List (Nat × Value)} {D : List Deferred} {I : Hp} {L : List HP} {X : Type} {P : X → List HP} (h : ∀ x, JJ c K E D I (P x ++ L)) : JJ c K E D I (exR P :: L) := by
  rintro a w hh k hE ⟨h1, h2, l1, l2, d, ⟨x, hx⟩, s2⟩ hR
  exact h x a w hh k hE (Sat.join l1 l2 d hx s2) hR
theorem Sat.close {X : Type} {P : X → List HP} (x : X) {L : List HP} {h : Hp} (s : Sat (P x ++ L) h) : Sat (exR P :: L) h :=
  let ⟨h1, h2, a, b, c, d, e⟩ := s.split
  ⟨h1, h2, a, b, c, ⟨x, d⟩, e⟩
theorem Sat.pure {p : Prop} {L : List HP} {h : Hp} (hp : p) (s : Sat L h) : Sat ((fun _ => p) :: L) h :=
  ⟨fun _ => none, h, fun _ _ e => (by cases e), .refl _, fun _ => .inl rfl, hp, s⟩
theorem JJ.pure {c : Cx} {K : List Item} {E : List (Nat × Value)} {D : List Deferred} {I : Hp} {L : List HP} {p : Prop} (h : p → JJ c K E D I L) : JJ c K E D I ((fun _ => p) :: L) :=
  fun a w hh k hE ⟨_, _, _, l2, _, hp, s2⟩ hR => h hp a w hh k hE (s2.mono l2) hR
def zipM (bs : List Nat) (sc : List IMap) : List HP := (bs.zip sc).map fun p => mapR p.1 p.2.toS
theorem zipM_get : ∀ {bs : List Nat} {sc : List IMap} {j b : Nat} {m : IMap}, bs[j]? = some b → sc[j]? = some m → (zipM bs sc)[j]? = some (mapR b m.toS)
  | [], _, _, _, _, h, _ => by simp at h
  | _ :: _, [], _, _, _, _, h => by simp at h
  | a :: bs, x :: sc, 0, b, m, h, k => by
    simp only [List.getElem?_cons_zero, Option.some.injEq] at h k
    subst h; subst k; rfl
  | a :: bs, x :: sc, j + 1, b, m, h, k => by
    have := zipM_get (bs := bs) (sc := sc) (j := j) (b := b) (m := m) (by simpa using h) (by simpa using k)
    simpa [zipM] using this
theorem zipM_set : ∀ {bs : List Nat} {sc : List IMap} {j b : Nat} {m : IMap}, bs[j]? = some b → (zipM bs sc).set j (mapR b m.toS) = zipM bs (sc.set j m)
  | [], _, _, _, _, h => by simp at h
  | a :: bs, [], j, b, m, h => by simp [zipM]
  | a :: bs, x :: sc, 0, b, m, h => by
    simp only [List.getElem?_cons_zero, Option.some.injEq] at h
    subst h; rfl
  | a :: bs, x :: sc, j + 1, b, m, h => by
    have := zipM_set (bs := bs) (sc := sc) (j := j) (b := b) (m := m) (by simpa using h)
    simpa [zipM] using this
theorem zipM_push {bs : List Nat} {sc : List IMap} {b : Nat} {m : IMap} (h : bs.length = sc.length) : zipM (bs ++ [b]) (sc ++ [m]) = zipM bs sc ++ [mapR b m.toS] := by
  unfold zipM; rw [List.zip_append h, List.map_append]; rfl
/-- The scopes: a slice of maps. -/
def scp (e : TypeId) (A : Option Addr) (n cp : Nat) (sc : List IMap) : HP :=
  exR fun bs : List Nat => (fun _ => bs.length = sc.length ∧ n = sc.length) :: own e 1 A n cp (bs.map fun b => Value.map (some b)) :: zipM bs sc
/-- The scopes, a new one among them. -/
theorem scp_push {e : TypeId} {A : Option Addr} {n cp nb : Nat} {sc : List IMap} {bs : List Nat} {L : List HP} {h : Hp} (hbs : bs.length = sc.length) (hn : n = sc.length)
    (s : Sat (own e 1 A (n + 1) cp ((bs.map fun b => Value.map (some b)) ++ [.map (some nb)]) :: (zipM bs sc ++ (mapR nb [] :: L))) h) : Sat (scp e A (sc ++ [[]]).length cp (sc ++ [[]]) :: L) h := by
  refine Sat.close (bs ++ [nb]) (Sat.pure ⟨by simp [hbs], rfl⟩ ?_)
  rw [zipM_push hbs, List.map_append, List.length_append]
  subst hn
  have e : zipM bs sc ++ (mapR nb [] :: L) = zipM bs sc ++ [mapR nb (IMap.toS [])] ++ L := by rw [List.append_assoc]; rfl
  rw [e] at s
  exact s
theorem kindOf_drop {s : ByteArray} {sc : List IMap} {j : Nat} {m : IMap} (h : sc[j]? = some m) : kindOf s (sc.drop j) = if m.get s = 0 then kindOf s (sc.drop (j + 1)) else m.get s := by
  obtain ⟨hlt, rfl⟩ := List.getElem?_eq_some_iff.1 h
  rw [List.drop_eq_getElem_cons hlt]; rfl
theorem mul_one_len {α β : Type} {f : α → β} {l : List α} {n : Nat} (h : l.length = n) : (l.map f).length = n * 1 := by simp [h]
end Go.Proofs.Ytlcdafeoionnhaa
