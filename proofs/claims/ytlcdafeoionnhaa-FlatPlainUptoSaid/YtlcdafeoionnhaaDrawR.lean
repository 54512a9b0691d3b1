/- Regions that draw their order, whose free operations may leave resources. -/
import Derived.Test.YtlcdafeoionnhaaArr
namespace Go.Proofs.Ytlcdafeoionnhaa
open Go
set_option linter.unusedSimpArgs false
set_option linter.unusedVariables false
/-- A region that draws its order, some of whose free operations leave resources (R). -/
theorem JJ.drawCoreR {c : Cx} {K : List Item} {E : List (Nat × Value)} {D : List Deferred} {I : Hp} {L : List HP} {ops : Array Oper} {id m : Nat} (base : List (Nat × Value)) (Spec : Nat → Hp → Value → Prop) (R : Nat → Value → HP) (hmix : c.P.follows .mixedOrders = true) (hok : okR c.N ops = true) (hdraw : drawOkT ops m base = true) (Ord : List Nat → Prop)
    (hord : ∀ (fuel t : Nat) (listed : Array Bool), listed.size = ops.size → (∀ i, i < m → listed.getD i false = true) → (∀ i, m ≤ i → i < ops.size → listed.getD i true = false) → ops.size - m ≤ fuel → Ord (Region.linearise.go .any ops fuel t listed []))
    (hmono : ∀ i I I' v, I.le I' → Spec i I v → Spec i I' v) (hbase : covers E base)
    (ob : Reg c.N ops → AllFrom (fun i => ∀ (F : List HP) is E I', I.le I' → covers E base → (∀ j ∈ deps ops i, ∃ d v, dstOf ops j = some d ∧ get E d = some v ∧ Spec j I' v) →
      (∀ v I'', I'.le I'' → Spec i I'' v → JJ c (.inRegion ops is :: K) (putE (dstOf ops i) v E) D I'' (R i v :: (L ++ F))) → JJ c (.inRegion ops (i :: is) :: K) E D I' (L ++ F)) 0 m)
    (done : Reg c.N ops → ∀ (vs : Nat → Value) I', I.le I' → AllFrom (fun i => Spec i I' (vs i)) 0 m → ∀ ord, Ord ord → JJ c (.inRegion ops ord :: K) (outsE ops vs m ++ base) D I' (L ++ (List.range m).map fun i => R i (vs i))) :
    JJ c (.code (.region id ops true) :: K) E D I L := by
  simp only [drawOkT, Bool.and_eq_true] at hdraw
  obtain ⟨⟨⟨hm, hlt⟩, hcl⟩, hds⟩ := hdraw
  have hm' : m ≤ ops.size := by simpa using hm
  have h1 : ∀ i, i < ops.size → ∀ j ∈ deps ops i, j < i := fun i hi j hj => by
    have := List.all_eq_true.1 hlt i (by simpa using hi)
    have := List.all_eq_true.1 this j hj
    simpa [Nat.blt_eq] using this
  have h2 : ∀ i, i < ops.size → m ≤ i → ∀ j, j < m → j ∈ clo ops ops.size i := fun i hi hmi j hj => by
    have := List.all_eq_true.1 hcl i (by simpa using hi)
    have h3 : Nat.blt i m = false := by
      cases e : Nat.blt i m with
      | false => rfl
      | true => have : i < m := by simpa [Nat.blt_eq] using e
                omega
    rw [h3, Bool.false_or] at this
    have := List.all_eq_true.1 this j (by simpa using hj)
    simpa using this
  have hd : ∀ i, i < m → ∃ d, dstOf ops i = some d ∧ (∀ p ∈ base, p.1 ≠ d) ∧ ∀ j, j < i → dstOf ops j ≠ some d := fun i hi => by
    have := List.all_eq_true.1 hds i (by simpa using hi)
    split at this
    · cases this
    · rename_i d hdd
      simp only [Bool.and_eq_true] at this
      refine ⟨d, hdd, fun p hp e => ?_, fun j hj e => ?_⟩
      · have := List.all_eq_true.1 this.1 p hp
        rw [e] at this; simp at this
      · have := List.all_eq_true.1 this.2 j (by simpa using hj)
        rw [e] at this; simp at this
  have hd2 : ∀ i j d, i < m → j < m → dstOf ops i = some d → dstOf ops j = some d → i = j := fun i j d hi hj e1 e2 => by
    rcases Nat.lt_trichotomy i j with h | h | h
    · obtain ⟨d', e, _, k⟩ := hd j hj; rw [e2] at e; cases e; exact absurd e1 (k i h)
    · exact h
    · obtain ⟨d', e, _, k⟩ := hd i hi; rw [e1] at e; cases e; exact absurd e2 (k j h)
  have key : ∀ (fuel t : Nat) (listed : Array Bool) (E : List (Nat × Value)) (I' : Hp) (os : List Nat), os.Nodup → (∀ i, i ∈ os ↔ i < m ∧ listed.getD i false = true) → (unl ops.size listed).length ≤ fuel → listed.size = ops.size → I.le I' → covers E base → (∀ i, m ≤ i → i < ops.size → listed.getD i true = false) →
      (∀ i, listed.getD i false = true → ∀ j ∈ deps ops i, listed.getD j false = true) → (∀ i, i < m → listed.getD i false = true → ∃ d v, dstOf ops i = some d ∧ get E d = some v ∧ Spec i I' v) →
      JJ c (.inRegion ops (Region.linearise.go .any ops fuel t listed []) :: K) E D I' (L ++ os.map fun i => R i (((dstOf ops i).bind (get E)).getD undef)) := by
    have fin : ∀ (os : List Nat) (f : Nat → HP) (listed : Array Bool), os.Nodup → (∀ i, i ∈ os ↔ i < m ∧ listed.getD i false = true) → (∀ i, i < m → listed.getD i false = true) → ∀ h, Sat (L ++ os.map f) h → Sat (L ++ (List.range m).map f) h := by
      intro os f listed hnd hos hall h s
      have hp : os.Perm (List.range m) := (List.perm_ext_iff_of_nodup hnd List.nodup_range).2 fun i => by
        rw [hos, List.mem_range]
        exact ⟨fun h => h.1, fun h => ⟨h, hall i h⟩⟩
      exact Sat.perm ((List.Perm.refl L).append (hp.map f)) s
    intro fuel
    induction fuel with
    | zero =>
      intro t listed E I' os hnd hos hf hs hle hb hu hclo hsp
      have hall : ∀ i, i < ops.size → listed.getD i true = true := fun i hi => by
        cases e : listed.getD i true with
        | true => rfl
        | false =>
          have : i ∈ unl ops.size listed := by simp only [unl, List.mem_filter, List.mem_range, e]; simp [hi]
          rw [List.eq_nil_of_length_eq_zero (by omega : (unl ops.size listed).length = 0)] at this; cases this
      have hmn : m = ops.size := by
        rcases Nat.lt_or_ge m ops.size with h | h
        · have := hu m (Nat.le_refl _) h; rw [hall m h] at this; cases this
        · omega
      have hsp' : ∀ i, i < m → ∃ d v, dstOf ops i = some d ∧ get E d = some v ∧ Spec i I' v := fun i hi => hsp i hi (by
        have := hall i (by omega)
        have hlt : i < listed.size := by omega
        simpa [Array.getD, hlt] using this)
      have hL : ∀ i, i < m → listed.getD i false = true := fun i hi => by
        have := hall i (by omega)
        have hlt : i < listed.size := by omega
        simpa [Array.getD, hlt] using this
      refine JJ.res (fin os _ listed hnd hos hL) ?_
      refine JJ.env (fun p hp => ?_) (done ⟨hok⟩ (fun i => ((dstOf ops i).bind (get E)).getD undef) I' hle (AllFrom.mk fun i _ hi => ?_) _ (hord 0 t listed hs hL hu (by omega)))
      · rcases List.mem_append.1 hp with hp | hp
        · simp only [outsE, List.mem_filterMap, List.mem_range] at hp
          obtain ⟨i, hi, hp⟩ := hp
          obtain ⟨d, v, e1, e2, _⟩ := hsp' i hi
          rw [e1] at hp; simp only [Option.map_some, Option.some.injEq] at hp
          subst hp; simp [e1, e2]
        · exact covers_all hb p hp
      · obtain ⟨d, v, e1, e2, e3⟩ := hsp' i (by omega)
        simpa [e1, e2] using e3
    | succ fuel ih =>
      intro t listed E I' os hnd hos hf hs hle hb hu hclo hsp
      by_cases hfree : ∀ i, i < m → listed.getD i false = true
      · have hsub : (List.range' m (ops.size - m)).length ≤ (unl ops.size listed).length := by
          have hss : (List.range' m (ops.size - m)).Sublist (unl ops.size listed) := by
            have e : (unl ops.size listed).filter (fun i => decide (m ≤ i)) = List.range' m (ops.size - m) := by
              unfold unl
              rw [List.filter_filter]
              have e2 : (List.range ops.size).filter (fun i => decide (m ≤ i) && !listed.getD i true) = (List.range ops.size).filter (fun i => decide (m ≤ i)) :=
                List.filter_congr fun i hi => by
                  have hi' : i < ops.size := by simpa using hi
                  by_cases hmi : m ≤ i
                  · simp only [hmi, hu i hmi hi', decide_true, Bool.not_false, Bool.and_self]
                  · simp [hmi]
              rw [e2]
              have e3 : List.range ops.size = List.range m ++ List.range' m (ops.size - m) := by
                rw [List.range_eq_range', List.range_eq_range']
                have := List.range'_append_1 (s := 0) (m := m) (n := ops.size - m)
                simp only [Nat.zero_add] at this
                rw [this]; congr 1; omega
              rw [e3, List.filter_append]
              have e4 : (List.range m).filter (fun i => decide (m ≤ i)) = [] := by
                refine List.filter_eq_nil_iff.2 fun i hi => ?_
                have : i < m := by simpa using hi
                simp only [decide_eq_true_eq]; omega
              have e5 : (List.range' m (ops.size - m)).filter (fun i => decide (m ≤ i)) = List.range' m (ops.size - m) := by
                refine List.filter_eq_self.2 fun i hi => ?_
                have := (List.mem_range'_1.1 hi).1
                simpa using this
              rw [e4, e5]; rfl
            rw [← e]; exact List.filter_sublist
          exact hss.length_le
        have hfu : ops.size - m ≤ fuel + 1 := by rw [List.length_range'] at hsub; omega
        refine JJ.res (fin os _ listed hnd hos hfree) ?_
        refine JJ.env (fun p hp => ?_) (done ⟨hok⟩ (fun i => ((dstOf ops i).bind (get E)).getD undef) I' hle (AllFrom.mk fun i _ hi => ?_) _ (hord (fuel + 1) t listed hs hfree hu hfu))
        · rcases List.mem_append.1 hp with hp | hp
          · simp only [outsE, List.mem_filterMap, List.mem_range] at hp
            obtain ⟨i, hi, hp⟩ := hp
            obtain ⟨d, v, e1, e2, _⟩ := hsp i hi (hfree i hi)
            rw [e1] at hp; simp only [Option.map_some, Option.some.injEq] at hp
            subst hp; simp [e1, e2]
          · exact covers_all hb p hp
        · obtain ⟨d, v, e1, e2, e3⟩ := hsp i (by omega) (hfree i (by omega))
          simpa [e1, e2] using e3
      · have hex : ∃ i, i < m ∧ listed.getD i false = false ∧ ∀ j, j < i → listed.getD j false = true := by
          have : ∃ i, i < m ∧ listed.getD i false = false := by
            refine Classical.byContradiction fun hn => hfree fun i hi => ?_
            cases e : listed.getD i false with
            | true => rfl
            | false => exact absurd ⟨i, hi, e⟩ hn
          obtain ⟨i, hi, he⟩ := this
          induction i using Nat.strongRecOn with
          | _ i ihi =>
            by_cases hall : ∀ j, j < i → listed.getD j false = true
            · exact ⟨i, hi, he, hall⟩
            · have : ∃ j, j < i ∧ listed.getD j false = false := by
                refine Classical.byContradiction fun hn => hall fun j hj => ?_
                cases e : listed.getD j false with
                | true => rfl
                | false => exact absurd ⟨j, hj, e⟩ hn
              obtain ⟨j, hj, hej⟩ := this
              exact ihi j hj (by omega) hej
        obtain ⟨i0, hi0, he0, hall0⟩ := hex
        have tr : ∀ i, i < ops.size → (listed.getD i true = listed.getD i false) := fun i hi => by
          have hlt : i < listed.size := by omega
          simp [Array.getD, hlt]
        have hr0 : i0 ∈ Region.ready .any ops listed := ready_iff.2 ⟨by rw [tr i0 (by omega)]; exact he0, by omega, fun j hj => hall0 j (h1 i0 (by omega) j hj)⟩
        have hne : 0 < (Region.ready .any ops listed).length := List.length_pos_of_mem hr0
        have hmod : t % (Region.ready .any ops listed).length < (Region.ready .any ops listed).length := Nat.mod_lt _ hne
        rw [go_eq, List.getElem?_eq_getElem hmod]
        dsimp only
        generalize hi : (Region.ready .any ops listed)[t % (Region.ready .any ops listed).length] = i
        have hir : i ∈ Region.ready .any ops listed := hi ▸ List.getElem_mem hmod
        obtain ⟨a, b, d⟩ := ready_iff.1 hir
        have him : i < m := by
          rcases Nat.lt_or_ge i m with h | h
          · exact h
          · have := clo_listed hclo ops.size i d i0 (h2 i b h i0 (by omega))
            rw [this] at he0; cases he0
        refine AllFrom.get (ob ⟨hok⟩) (Nat.zero_le i) (by omega) _ _ E I' hle hb (fun j hj => hsp j (by have := h1 i b j hj; omega) (d j hj)) fun v I'' hle2 hspec => ?_
        obtain ⟨di, hdi, hbd, _⟩ := hd i him
        rw [hdi]
        have hget : ∀ t u, t ≠ di → get E t = some u → get ((di, v) :: E) t = some u := fun t u hne hg => by
          simp only [get]
          have : Nat.beq di t = false := by
            cases e : Nat.beq di t with
            | false => rfl
            | true => exact absurd (Nat.eq_of_beq_eq_true e).symm hne
          rw [this]; exact hg
        have hni : i ∉ os := fun h => by
          have := ((hos i).1 h).2
          rw [tr i b] at a
          rw [this] at a; cases a
        have hbq0 : Nat.beq di di = true := by simp
        have hFeq : (R i v :: (L ++ os.map fun i => R i (((dstOf ops i).bind (get E)).getD undef))).Perm (L ++ (i :: os).map fun i => R i (((dstOf ops i).bind (get ((di, v) :: E))).getD undef)) := by
          have e1 : (os.map fun j => R j (((dstOf ops j).bind (get E)).getD undef)) = os.map fun j => R j (((dstOf ops j).bind (get ((di, v) :: E))).getD undef) := by
            refine List.map_congr_left fun j hj => ?_
            obtain ⟨hjm, hjl⟩ := (hos j).1 hj
            obtain ⟨dj, u, k1, k2, _⟩ := hsp j hjm hjl
            have hne : dj ≠ di := fun e => by
              subst e
              have := hd2 j i dj hjm him k1 hdi
              subst this; exact hni hj
            have k3 := hget dj u hne k2
            rw [k1]; show R j ((get E dj).getD undef) = R j ((get ((di, v) :: E) dj).getD undef)
            rw [k2, k3]
          have e2 : R i (((dstOf ops i).bind (get ((di, v) :: E))).getD undef) = R i v := by
            rw [hdi]; show R i ((get ((di, v) :: E) di).getD undef) = R i v
            simp only [get, hbq0, cond_true]; rfl
          rw [List.map_cons, e2, e1]
          exact (List.perm_middle).symm
        refine JJ.res (fun h s => Sat.perm hFeq s) ?_
        refine ih _ _ _ I'' (i :: os) (List.nodup_cons.2 ⟨hni, hnd⟩) ?_ ?_ (by simpa using hs) (hle.trans hle2) ?_ ?_ ?_ ?_
        · intro j
          rw [List.mem_cons]
          constructor
          · rintro (rfl | hj)
            · have hlt : j < listed.size := by omega
              exact ⟨him, by simp [Array.getD, hlt]⟩
            · obtain ⟨q1, q2⟩ := (hos j).1 hj
              exact ⟨q1, getD_set_true q2⟩
          · rintro ⟨q1, q2⟩
            by_cases hji : j = i
            · exact .inl hji
            · rw [getD_set_ne false (fun e => hji e.symm)] at q2
              exact .inr ((hos j).2 ⟨q1, q2⟩)
        · have := unl_lt hs b a; omega
        · have aux : ∀ l : List (Nat × Value), (∀ p ∈ l, p.1 ≠ di) → covers E l → covers ((di, v) :: E) l := by
            intro l
            induction l with
            | nil => exact fun _ _ => trivial
            | cons p l ihl => exact fun hn hc => ⟨hget _ _ (hn p (by simp)) hc.1, ihl (fun q hq => hn q (by simp [hq])) hc.2⟩
          exact aux base hbd hb
        · intro j hj hlt
          rw [getD_set_ne true (by omega)]; exact hu j hj hlt
        · intro j hj k hk
          by_cases hji : j = i
          · subst hji; exact getD_set_true (d k hk)
          · rw [getD_set_ne false (fun e => hji e.symm)] at hj
            exact getD_set_true (hclo j hj k hk)
        · intro j hj hlj
          by_cases hji : j = i
          · subst hji
            have hbq : Nat.beq di di = true := by simp
            exact ⟨di, v, hdi, by show get ((di, v) :: E) di = some v; simp only [get, hbq, cond_true], hspec⟩
          · rw [getD_set_ne false (fun e => hji e.symm)] at hlj
            obtain ⟨dj, u, e1, e2, e3⟩ := hsp j hj hlj
            refine ⟨dj, u, e1, hget _ _ (fun e => ?_) e2, hmono _ _ _ _ hle2 e3⟩
            subst e
            exact hji (hd2 j i dj hj him e1 hdi)
  intro a w h k hE hS hR
  have hR1 : Rel I h k { w with drawn := w.drawn + 1 } := ⟨hR.Ion, hR.hon, hR.kon, hR.Ih, hR.Ik, hR.hk⟩
  refine Run.steps (todo' := .inRegion ops (Region.linearise.go .any ops ops.size (w.tape w.drawn (.order c.f id)) (Array.replicate ops.size false) []) :: K) (a' := a) (w' := { w with drawn := w.drawn + 1 }) (fun cs => .one ?_) ?_
  · rw [fram_eq, fram_eq]
    have := stepR_region_draw (P := c.P) (b := { (default : Frame) with fn := c.f, kind := .normal, roundOf := c.ro }) (a := a) (k := K) (cs := cs) (w := w) (ops := ops) (id := id)
    rw [this, hmix]; rfl
  · refine (key ops.size _ (Array.replicate ops.size false) E I [] List.nodup_nil ?_ ?_ (by simp) (.refl _) hbase ?_ ?_ ?_ a { w with drawn := w.drawn + 1 } h k hE (by simpa using hS) hR1).mono fun v w' p => p.later (.refl _) ⟨rfl, rfl, rfl⟩
    · intro i
      constructor
      · intro h; cases h
      · rintro ⟨_, h⟩; simp [Array.getD] at h
    · have := List.length_filter_le (fun i => !(Array.replicate ops.size false).getD i true) (List.range ops.size)
      simpa [unl] using this
    · intro i _ hi; simp [Array.getD, hi]
    · intro i hi; simp [Array.getD] at hi
    · intro i _ hi; simp [Array.getD] at hi

theorem JJ.drawR {c : Cx} {K : List Item} {E : List (Nat × Value)} {D : List Deferred} {I : Hp} {L : List HP} {ops : Array Oper} {id m : Nat} (base : List (Nat × Value)) (Spec : Nat → Hp → Value → Prop) (R : Nat → Value → HP) (hmix : c.P.follows .mixedOrders = true) (hok : okR c.N ops = true) (hdraw : drawOk ops m base = true)
    (hmono : ∀ i I I' v, I.le I' → Spec i I v → Spec i I' v) (hbase : covers E base)
    (ob : Reg c.N ops → AllFrom (fun i => ∀ (F : List HP) is E I', I.le I' → covers E base → (∀ j ∈ deps ops i, ∃ d v, dstOf ops j = some d ∧ get E d = some v ∧ Spec j I' v) →
      (∀ v I'', I'.le I'' → Spec i I'' v → JJ c (.inRegion ops is :: K) (putE (dstOf ops i) v E) D I'' (R i v :: (L ++ F))) → JJ c (.inRegion ops (i :: is) :: K) E D I' (L ++ F)) 0 m)
    (done : Reg c.N ops → ∀ (vs : Nat → Value) I', I.le I' → AllFrom (fun i => Spec i I' (vs i)) 0 m → JJ c (.inRegion ops (List.range' m (ops.size - m)) :: K) (outsE ops vs m ++ base) D I' (L ++ (List.range m).map fun i => R i (vs i))) :
    JJ c (.code (.region id ops true) :: K) E D I L := by
  have hdraw0 := hdraw
  simp only [drawOk, Bool.and_eq_true] at hdraw
  obtain ⟨⟨⟨hm, hlt⟩, hcl⟩, hds⟩ := hdraw
  have hm' : m ≤ ops.size := by simpa using hm
  have h1 : ∀ i, i < ops.size → ∀ j ∈ deps ops i, j < i := fun i hi j hj => by
    have := List.all_eq_true.1 hlt i (by simpa using hi)
    have := List.all_eq_true.1 this j hj
    simpa [Nat.blt_eq] using this
  have h2 : ∀ i, i < ops.size → m ≤ i → ∀ j, j < i → j ∈ clo ops ops.size i := fun i hi hmi j hj => by
    have := List.all_eq_true.1 hcl i (by simpa using hi)
    have h3 : Nat.blt i m = false := by
      cases e : Nat.blt i m with
      | false => rfl
      | true => have : i < m := by simpa [Nat.blt_eq] using e
                omega
    rw [h3, Bool.false_or] at this
    have := List.all_eq_true.1 this j (by simpa using hj)
    simpa using this
  have hT : drawOkT ops m base = true := by
    simp only [drawOkT, Bool.and_eq_true]
    refine ⟨⟨⟨hm, hlt⟩, List.all_eq_true.2 fun i hi => ?_⟩, hds⟩
    have hi' : i < ops.size := by simpa using hi
    rcases Nat.lt_or_ge i m with h | h
    · have : Nat.blt i m = true := by simpa [Nat.blt_eq] using h
      rw [this]; rfl
    · rw [Bool.or_eq_true]; right
      refine List.all_eq_true.2 fun j hj => ?_
      have := h2 i hi' h j (by have : j < m := by simpa using hj
                               omega)
      simpa using this
  exact JJ.drawCoreR base Spec R hmix hok hT (fun l => l = List.range' m (ops.size - m)) (fun fuel t listed hs hl hu hf => go_tail h1 h2 (ops.size - m) m fuel t listed (by omega) hf (Nat.le_refl _) hs hl hu) hmono hbase ob (fun rg vs I' hle hs ord ho => ho ▸ done rg vs I' hle hs)
end Go.Proofs.Ytlcdafeoionnhaa
