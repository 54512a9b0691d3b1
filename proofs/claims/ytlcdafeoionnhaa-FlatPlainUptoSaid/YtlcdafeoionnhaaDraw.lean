/- A region that draws its order: its first operations read, compute and call what makes memory of its own; whatever comes behind them comes in the order of the text. -/
import Derived.Test.YtlcdafeoionnhaaLit
import Derived.Orders
namespace Go.Proofs.Ytlcdafeoionnhaa
open Go
set_option linter.unusedSimpArgs false
set_option linter.unusedVariables false

def depsO (o : Oper) : List Nat := (o.after.toList.filter (Region.binds .any)).map (·.on)
def deps (ops : Array Oper) (i : Nat) : List Nat := match ops[i]? with | some o => depsO o | none => []
/-- What stands ahead of an operation, through others too. -/
def clo (ops : Array Oper) : Nat → Nat → List Nat
  | 0, _ => []
  | f + 1, i => let d := deps ops i; (d ++ d.flatMap (clo ops f)).eraseDups
def dstOf (ops : Array Oper) (i : Nat) : Option Nat := (ops[i]?).bind (·.dst)
/-- The look at a region's shape: the first m operations have places of their own; all others come behind all of what stands ahead of them. -/
def drawOk (ops : Array Oper) (m : Nat) (base : List (Nat × Value)) : Bool :=
  Nat.ble m ops.size &&
  (List.range ops.size).all (fun i => (deps ops i).all (fun j => Nat.blt j i)) &&
  (List.range ops.size).all (fun i => Nat.blt i m || (List.range i).all (fun j => (clo ops ops.size i).elem j)) &&
  (List.range m).all (fun i => match dstOf ops i with
    | none => false
    | some d => base.all (fun p => !Nat.beq p.1 d) && (List.range i).all (fun j => match dstOf ops j with | none => false | some e => !Nat.beq e d))
def AllFrom (p : Nat → Prop) : Nat → Nat → Prop
  | _, 0 => True
  | i, k + 1 => p i ∧ AllFrom p (i + 1) k
theorem AllFrom.get {p : Nat → Prop} : ∀ {k i j : Nat}, AllFrom p i k → i ≤ j → j < i + k → p j
  | 0, i, j, _, h1, h2 => by omega
  | k + 1, i, j, h, h1, h2 => by
    by_cases e : i = j
    · subst e; exact h.1
    · exact AllFrom.get (k := k) (i := i + 1) h.2 (by omega) (by omega)
theorem AllFrom.mk {p : Nat → Prop} : ∀ {k i : Nat}, (∀ j, i ≤ j → j < i + k → p j) → AllFrom p i k
  | 0, i, _ => trivial
  | k + 1, i, h => ⟨h i (by omega) (by omega), AllFrom.mk fun j h1 h2 => h j (by omega) (by omega)⟩
def outsE (ops : Array Oper) (vs : Nat → Value) (m : Nat) : List (Nat × Value) := (List.range m).filterMap fun i => (dstOf ops i).map fun d => (d, vs i)
theorem clo_listed {ops : Array Oper} {listed : Array Bool} (hc : ∀ i, listed.getD i false = true → ∀ j ∈ deps ops i, listed.getD j false = true) : ∀ (f i : Nat), (∀ j ∈ deps ops i, listed.getD j false = true) → ∀ j ∈ clo ops f i, listed.getD j false = true := by
  intro f
  induction f with
  | zero => intro i _ j hj; cases hj
  | succ f ih =>
    intro i hd j hj
    simp only [clo] at hj
    rw [List.mem_eraseDups, List.mem_append, List.mem_flatMap] at hj
    rcases hj with hj | ⟨k, hk, hj⟩
    · exact hd j hj
    · exact ih k (hc k (hd k hk)) j hj
theorem ready_iff {ops : Array Oper} {listed : Array Bool} {i : Nat} : i ∈ Region.ready .any ops listed ↔ listed.getD i true = false ∧ i < ops.size ∧ ∀ j ∈ deps ops i, listed.getD j false = true := by
  rw [mem_ready]
  constructor
  · rintro ⟨h0, o, ho, h⟩
    refine ⟨h0, (Array.getElem?_eq_some_iff.1 ho).1, fun j hj => ?_⟩
    simp only [deps, ho, depsO, List.mem_map, List.mem_filter] at hj
    obtain ⟨e, ⟨he, hb⟩, rfl⟩ := hj
    exact h e (by simpa using he) hb
  · rintro ⟨h0, hlt, h⟩
    refine ⟨h0, ops[i], Array.getElem?_eq_getElem hlt, fun e he hb => h e.on ?_⟩
    simp only [deps, Array.getElem?_eq_getElem hlt, depsO, List.mem_map, List.mem_filter]
    exact ⟨e, ⟨by simpa using he, hb⟩, rfl⟩
theorem go_eq {ops : Array Oper} {fuel t : Nat} {listed : Array Bool} : Region.linearise.go .any ops (fuel + 1) t listed [] =
    match (Region.ready .any ops listed)[t % (Region.ready .any ops listed).length]? with
    | some i => i :: Region.linearise.go .any ops fuel (t / (Region.ready .any ops listed).length) (listed.setIfInBounds i true) []
    | none => [] := by
  simp only [Region.linearise.go]
  show (match (Region.ready .any ops listed)[t % (Region.ready .any ops listed).length]? with | some i => _ | none => _) = _
  split
  · rename_i i h; rw [linearise_go_acc]; rfl
  · rfl
def unl (n : Nat) (listed : Array Bool) : List Nat := (List.range n).filter fun i => !listed.getD i true
theorem unl_lt {n : Nat} {listed : Array Bool} {i : Nat} (hs : listed.size = n) (hi : i < n) (h : listed.getD i true = false) : (unl n (listed.setIfInBounds i true)).length < (unl n listed).length := by
  have e : unl n (listed.setIfInBounds i true) = (unl n listed).filter fun j => j != i := by
    unfold unl
    rw [List.filter_filter]
    refine List.filter_congr fun j hj => ?_
    by_cases hji : j = i
    · subst hji
      simp [Array.getD, hs, hi]
    · rw [getD_set_ne true (fun e => hji e.symm)]
      have : (j != i) = true := by simpa using hji
      simp [this]
  rw [e]
  exact List.length_filter_lt_length_iff_exists.2 ⟨i, by simp only [unl, List.mem_filter, List.mem_range, h]; simp [hi], by simp⟩
/-- Behind the free ones: the order of the text. -/
theorem go_tail {ops : Array Oper} {m : Nat} (h1 : ∀ i, i < ops.size → ∀ j ∈ deps ops i, j < i) (h2 : ∀ i, i < ops.size → m ≤ i → ∀ j, j < i → j ∈ clo ops ops.size i) :
    ∀ (r k fuel t : Nat) (listed : Array Bool), k + r = ops.size → r ≤ fuel → m ≤ k → listed.size = ops.size → (∀ i, i < k → listed.getD i false = true) → (∀ i, k ≤ i → i < ops.size → listed.getD i true = false) →
      Region.linearise.go .any ops fuel t listed [] = List.range' k r := by
  intro r
  induction r with
  | zero =>
    intro k fuel t listed hk _ _ hs hl hu
    have hr : Region.ready .any ops listed = [] := by
      refine List.eq_nil_iff_forall_not_mem.2 fun i hi => ?_
      obtain ⟨a, b, _⟩ := ready_iff.1 hi
      have := hl i (by omega)
      have hlt : i < listed.size := by omega
      simp only [Array.getD, hlt, dif_pos] at a this
      rw [a] at this; cases this
    cases fuel with
    | zero => rfl
    | succ fuel => rw [go_eq, hr]; rfl
  | succ r ih =>
    intro k fuel t listed hk hf hm hs hl hu
    have hr : Region.ready .any ops listed = [k] := by
      have hmem : ∀ i, i ∈ Region.ready .any ops listed ↔ i = k := by
        intro i
        rw [ready_iff]
        constructor
        · rintro ⟨a, b, d⟩
          rcases Nat.lt_trichotomy i k with h | h | h
          · have := hl i h
            have hlt : i < listed.size := by omega
            simp only [Array.getD, hlt, dif_pos] at a this
            rw [a] at this; cases this
          · exact h
          · have hc := clo_listed (ops := ops) (listed := listed) (fun i hi j hj => by
              rcases Nat.lt_or_ge i k with h' | h'
              · exact hl j (by have := h1 i (by omega) j hj; omega)
              · rcases Nat.lt_or_ge i ops.size with h'' | h''
                · have := hu i h' h''
                  have hlt : i < listed.size := by omega
                  simp only [Array.getD, hlt, dif_pos] at this hi
                  rw [this] at hi; cases hi
                · simp [Array.getD, hs, Nat.not_lt.2 h''] at hi) ops.size i d k (h2 i b (by omega) k h)
            have hlt : k < listed.size := by omega
            have := hu k (Nat.le_refl _) (by omega)
            simp only [Array.getD, hlt, dif_pos] at this hc
            rw [this] at hc; cases hc
        · rintro rfl
          exact ⟨hu _ (Nat.le_refl _) (by omega), by omega, fun j hj => hl j (h1 _ (by omega) j hj)⟩
      have hnd : (Region.ready .any ops listed).Nodup := by unfold Region.ready; exact List.nodup_range.sublist List.filter_sublist
      cases hl' : Region.ready .any ops listed with
      | nil => have := (hmem k).2 rfl; rw [hl'] at this; cases this
      | cons a l =>
        have ha : a = k := (hmem a).1 (by rw [hl']; simp)
        subst ha
        cases l with
        | nil => rfl
        | cons b l =>
          have hb : b = a := (hmem b).1 (by rw [hl']; simp)
          subst hb
          rw [hl'] at hnd
          simp at hnd
    cases fuel with
    | zero => omega
    | succ fuel =>
      rw [go_eq, hr]
      simp only [List.length_singleton, Nat.mod_one, List.getElem?_cons_zero, List.range'_succ]
      rw [ih (k + 1) fuel _ _ (by omega) (by omega) (by omega) (by simpa using hs) ?_ ?_]
      · intro i hi
        by_cases e : i = k
        · subst e
          have hlt : i < listed.size := by omega
          simp [Array.getD, hlt]
        · rw [getD_set_ne false (fun x => e x.symm)]; exact hl i (by omega)
      · intro i hi hlt
        rw [getD_set_ne true (by omega)]; exact hu i (by omega) hlt
/-- The look at a region's shape, the last operations in whatever order. -/
def drawOkT (ops : Array Oper) (m : Nat) (base : List (Nat × Value)) : Bool :=
  Nat.ble m ops.size &&
  (List.range ops.size).all (fun i => (deps ops i).all (fun j => Nat.blt j i)) &&
  (List.range ops.size).all (fun i => Nat.blt i m || (List.range m).all (fun j => (clo ops ops.size i).elem j)) &&
  (List.range m).all (fun i => match dstOf ops i with
    | none => false
    | some d => base.all (fun p => !Nat.beq p.1 d) && (List.range i).all (fun j => match dstOf ops j with | none => false | some e => !Nat.beq e d))
/-- A region that draws its order, whatever orders its last operations may have ('Ord'). -/
theorem JJ.drawCore {c : Cx} {K : List Item} {E : List (Nat × Value)} {D : List Deferred} {I : Hp} {L : List HP} {ops : Array Oper} {id m : Nat} (base : List (Nat × Value)) (Spec : Nat → Hp → Value → Prop) (hmix : c.P.follows .mixedOrders = true) (hok : okR c.N ops = true) (hdraw : drawOkT ops m base = true) (Ord : List Nat → Prop)
    (hord : ∀ (fuel t : Nat) (listed : Array Bool), listed.size = ops.size → (∀ i, i < m → listed.getD i false = true) → (∀ i, m ≤ i → i < ops.size → listed.getD i true = false) → ops.size - m ≤ fuel → Ord (Region.linearise.go .any ops fuel t listed []))
    (hmono : ∀ i I I' v, I.le I' → Spec i I v → Spec i I' v) (hbase : covers E base)
    (ob : Reg c.N ops → AllFrom (fun i => ∀ is E I', I.le I' → covers E base → (∀ j ∈ deps ops i, ∃ d v, dstOf ops j = some d ∧ get E d = some v ∧ Spec j I' v) →
      (∀ v I'', I'.le I'' → Spec i I'' v → JJ c (.inRegion ops is :: K) (putE (dstOf ops i) v E) D I'' L) → JJ c (.inRegion ops (i :: is) :: K) E D I' L) 0 m)
    (done : Reg c.N ops → ∀ (vs : Nat → Value) I', I.le I' → AllFrom (fun i => Spec i I' (vs i)) 0 m → ∀ ord, Ord ord → JJ c (.inRegion ops ord :: K) (outsE ops vs m ++ base) D I' L) :
    JJ c (.code (.region id ops true) :: K) E D I L := by
  simp only [drawOkT, Bool.and_eq_true] at hdraw
  obtain ⟨⟨⟨hm, hlt⟩, hcl⟩, hds⟩ := hdraw
  have hm' : m ≤ ops.size := by simpa using hm
  have h1 : ∀ i, i < ops.size → ∀ j ∈ deps ops i, j < i := fun i hi j hj => by
    have := List.all_eq_true.1 hlt i (by simpa using hi)
    have := List.all_eq_true.1 this j hj
    simpa [Nat.blt_eq] using this
  have h2 : ∀ i, i < ops.size → m ≤ i → ∀ j, j < m → j ∈ clo ops ops.size i := fun i hi hmi j hj => by
    have := List.all_eq_true.1 hcl i (by simpa using hi)
    have h3 : Nat.blt i m = false := by
      cases e : Nat.blt i m with
      | false => rfl
      | true => have : i < m := by simpa [Nat.blt_eq] using e
                omega
    rw [h3, Bool.false_or] at this
    have := List.all_eq_true.1 this j (by simpa using hj)
    simpa using this
  have hd : ∀ i, i < m → ∃ d, dstOf ops i = some d ∧ (∀ p ∈ base, p.1 ≠ d) ∧ ∀ j, j < i → dstOf ops j ≠ some d := fun i hi => by
    have := List.all_eq_true.1 hds i (by simpa using hi)
    split at this
    · cases this
    · rename_i d hdd
      simp only [Bool.and_eq_true] at this
      refine ⟨d, hdd, fun p hp e => ?_, fun j hj e => ?_⟩
      · have := List.all_eq_true.1 this.1 p hp
        rw [e] at this; simp at this
      · have := List.all_eq_true.1 this.2 j (by simpa using hj)
        rw [e] at this; simp at this
  have hd2 : ∀ i j d, i < m → j < m → dstOf ops i = some d → dstOf ops j = some d → i = j := fun i j d hi hj e1 e2 => by
    rcases Nat.lt_trichotomy i j with h | h | h
    · obtain ⟨d', e, _, k⟩ := hd j hj; rw [e2] at e; cases e; exact absurd e1 (k i h)
    · exact h
    · obtain ⟨d', e, _, k⟩ := hd i hi; rw [e1] at e; cases e; exact absurd e2 (k j h)
  have key : ∀ (fuel t : Nat) (listed : Array Bool) (E : List (Nat × Value)) (I' : Hp), (unl ops.size listed).length ≤ fuel → listed.size = ops.size → I.le I' → covers E base → (∀ i, m ≤ i → i < ops.size → listed.getD i true = false) →
      (∀ i, listed.getD i false = true → ∀ j ∈ deps ops i, listed.getD j false = true) → (∀ i, i < m → listed.getD i false = true → ∃ d v, dstOf ops i = some d ∧ get E d = some v ∧ Spec i I' v) →
      JJ c (.inRegion ops (Region.linearise.go .any ops fuel t listed []) :: K) E D I' L := by
    intro fuel
    induction fuel with
    | zero =>
      intro t listed E I' hf hs hle hb hu hclo hsp
      have hall : ∀ i, i < ops.size → listed.getD i true = true := fun i hi => by
        cases e : listed.getD i true with
        | true => rfl
        | false =>
          have : i ∈ unl ops.size listed := by simp only [unl, List.mem_filter, List.mem_range, e]; simp [hi]
          rw [List.eq_nil_of_length_eq_zero (by omega : (unl ops.size listed).length = 0)] at this; cases this
      have hmn : m = ops.size := by
        rcases Nat.lt_or_ge m ops.size with h | h
        · have := hu m (Nat.le_refl _) h; rw [hall m h] at this; cases this
        · omega
      have hsp' : ∀ i, i < m → ∃ d v, dstOf ops i = some d ∧ get E d = some v ∧ Spec i I' v := fun i hi => hsp i hi (by
        have := hall i (by omega)
        have hlt : i < listed.size := by omega
        simpa [Array.getD, hlt] using this)
      have hL : ∀ i, i < m → listed.getD i false = true := fun i hi => by
        have := hall i (by omega)
        have hlt : i < listed.size := by omega
        simpa [Array.getD, hlt] using this
      refine JJ.env (fun p hp => ?_) (done ⟨hok⟩ (fun i => ((dstOf ops i).bind (get E)).getD undef) I' hle (AllFrom.mk fun i _ hi => ?_) _ (hord 0 t listed hs hL hu (by omega)))
      · rcases List.mem_append.1 hp with hp | hp
        · simp only [outsE, List.mem_filterMap, List.mem_range] at hp
          obtain ⟨i, hi, hp⟩ := hp
          obtain ⟨d, v, e1, e2, _⟩ := hsp' i hi
          rw [e1] at hp; simp only [Option.map_some, Option.some.injEq] at hp
          subst hp; simp [e1, e2]
        · exact covers_all hb p hp
      · obtain ⟨d, v, e1, e2, e3⟩ := hsp' i (by omega)
        simpa [e1, e2] using e3
    | succ fuel ih =>
      intro t listed E I' hf hs hle hb hu hclo hsp
      by_cases hfree : ∀ i, i < m → listed.getD i false = true
      · have hsub : (List.range' m (ops.size - m)).length ≤ (unl ops.size listed).length := by
          have hss : (List.range' m (ops.size - m)).Sublist (unl ops.size listed) := by
            have e : (unl ops.size listed).filter (fun i => decide (m ≤ i)) = List.range' m (ops.size - m) := by
              unfold unl
              rw [List.filter_filter]
              have e2 : (List.range ops.size).filter (fun i => decide (m ≤ i) && !listed.getD i true) = (List.range ops.size).filter (fun i => decide (m ≤ i)) :=
                List.filter_congr fun i hi => by
                  have hi' : i < ops.size := by simpa using hi
                  by_cases hmi : m ≤ i
                  · simp only [hmi, hu i hmi hi', decide_true, Bool.not_false, Bool.and_self]
                  · simp [hmi]
              rw [e2]
              have e3 : List.range ops.size = List.range m ++ List.range' m (ops.size - m) := by
                rw [List.range_eq_range', List.range_eq_range']
                have := List.range'_append_1 (s := 0) (m := m) (n := ops.size - m)
                simp only [Nat.zero_add] at this
                rw [this]; congr 1; omega
              rw [e3, List.filter_append]
              have e4 : (List.range m).filter (fun i => decide (m ≤ i)) = [] := by
                refine List.filter_eq_nil_iff.2 fun i hi => ?_
                have : i < m := by simpa using hi
                simp only [decide_eq_true_eq]; omega
              have e5 : (List.range' m (ops.size - m)).filter (fun i => decide (m ≤ i)) = List.range' m (ops.size - m) := by
                refine List.filter_eq_self.2 fun i hi => ?_
                have := (List.mem_range'_1.1 hi).1
                simpa using this
              rw [e4, e5]; rfl
            rw [← e]; exact List.filter_sublist
          exact hss.length_le
        have hfu : ops.size - m ≤ fuel + 1 := by rw [List.length_range'] at hsub; omega
        refine JJ.env (fun p hp => ?_) (done ⟨hok⟩ (fun i => ((dstOf ops i).bind (get E)).getD undef) I' hle (AllFrom.mk fun i _ hi => ?_) _ (hord (fuel + 1) t listed hs hfree hu hfu))
        · rcases List.mem_append.1 hp with hp | hp
          · simp only [outsE, List.mem_filterMap, List.mem_range] at hp
            obtain ⟨i, hi, hp⟩ := hp
            obtain ⟨d, v, e1, e2, _⟩ := hsp i hi (hfree i hi)
            rw [e1] at hp; simp only [Option.map_some, Option.some.injEq] at hp
            subst hp; simp [e1, e2]
          · exact covers_all hb p hp
        · obtain ⟨d, v, e1, e2, e3⟩ := hsp i (by omega) (hfree i (by omega))
          simpa [e1, e2] using e3
      · have hex : ∃ i, i < m ∧ listed.getD i false = false ∧ ∀ j, j < i → listed.getD j false = true := by
          have : ∃ i, i < m ∧ listed.getD i false = false := by
            refine Classical.byContradiction fun hn => hfree fun i hi => ?_
            cases e : listed.getD i false with
            | true => rfl
            | false => exact absurd ⟨i, hi, e⟩ hn
          obtain ⟨i, hi, he⟩ := this
          induction i using Nat.strongRecOn with
          | _ i ihi =>
            by_cases hall : ∀ j, j < i → listed.getD j false = true
            · exact ⟨i, hi, he, hall⟩
            · have : ∃ j, j < i ∧ listed.getD j false = false := by
                refine Classical.byContradiction fun hn => hall fun j hj => ?_
                cases e : listed.getD j false with
                | true => rfl
                | false => exact absurd ⟨j, hj, e⟩ hn
              obtain ⟨j, hj, hej⟩ := this
              exact ihi j hj (by omega) hej
        obtain ⟨i0, hi0, he0, hall0⟩ := hex
        have tr : ∀ i, i < ops.size → (listed.getD i true = listed.getD i false) := fun i hi => by
          have hlt : i < listed.size := by omega
          simp [Array.getD, hlt]
        have hr0 : i0 ∈ Region.ready .any ops listed := ready_iff.2 ⟨by rw [tr i0 (by omega)]; exact he0, by omega, fun j hj => hall0 j (h1 i0 (by omega) j hj)⟩
        have hne : 0 < (Region.ready .any ops listed).length := List.length_pos_of_mem hr0
        have hmod : t % (Region.ready .any ops listed).length < (Region.ready .any ops listed).length := Nat.mod_lt _ hne
        rw [go_eq, List.getElem?_eq_getElem hmod]
        dsimp only
        generalize hi : (Region.ready .any ops listed)[t % (Region.ready .any ops listed).length] = i
        have hir : i ∈ Region.ready .any ops listed := hi ▸ List.getElem_mem hmod
        obtain ⟨a, b, d⟩ := ready_iff.1 hir
        have him : i < m := by
          rcases Nat.lt_or_ge i m with h | h
          · exact h
          · have := clo_listed hclo ops.size i d i0 (h2 i b h i0 (by omega))
            rw [this] at he0; cases he0
        refine AllFrom.get (ob ⟨hok⟩) (Nat.zero_le i) (by omega) _ E I' hle hb (fun j hj => hsp j (by have := h1 i b j hj; omega) (d j hj)) fun v I'' hle2 hspec => ?_
        obtain ⟨di, hdi, hbd, _⟩ := hd i him
        rw [hdi]
        have hget : ∀ t u, t ≠ di → get E t = some u → get ((di, v) :: E) t = some u := fun t u hne hg => by
          simp only [get]
          have : Nat.beq di t = false := by
            cases e : Nat.beq di t with
            | false => rfl
            | true => exact absurd (Nat.eq_of_beq_eq_true e).symm hne
          rw [this]; exact hg
        refine ih _ _ _ I'' ?_ (by simpa using hs) (hle.trans hle2) ?_ ?_ ?_ ?_
        · have := unl_lt hs b a; omega
        · have aux : ∀ l : List (Nat × Value), (∀ p ∈ l, p.1 ≠ di) → covers E l → covers ((di, v) :: E) l := by
            intro l
            induction l with
            | nil => exact fun _ _ => trivial
            | cons p l ihl => exact fun hn hc => ⟨hget _ _ (hn p (by simp)) hc.1, ihl (fun q hq => hn q (by simp [hq])) hc.2⟩
          exact aux base hbd hb
        · intro j hj hlt
          rw [getD_set_ne true (by omega)]; exact hu j hj hlt
        · intro j hj k hk
          by_cases hji : j = i
          · subst hji; exact getD_set_true (d k hk)
          · rw [getD_set_ne false (fun e => hji e.symm)] at hj
            exact getD_set_true (hclo j hj k hk)
        · intro j hj hlj
          by_cases hji : j = i
          · subst hji
            have hbq : Nat.beq di di = true := by simp
            exact ⟨di, v, hdi, by show get ((di, v) :: E) di = some v; simp only [get, hbq, cond_true], hspec⟩
          · rw [getD_set_ne false (fun e => hji e.symm)] at hlj
            obtain ⟨dj, u, e1, e2, e3⟩ := hsp j hj hlj
            refine ⟨dj, u, e1, hget _ _ (fun e => ?_) e2, hmono _ _ _ _ hle2 e3⟩
            subst e
            exact hji (hd2 j i dj hj him e1 hdi)
  intro a w h k hE hS hR
  have hR1 : Rel I h k { w with drawn := w.drawn + 1 } := ⟨hR.Ion, hR.hon, hR.kon, hR.Ih, hR.Ik, hR.hk⟩
  refine Run.steps (todo' := .inRegion ops (Region.linearise.go .any ops ops.size (w.tape w.drawn (.order c.f id)) (Array.replicate ops.size false) []) :: K) (a' := a) (w' := { w with drawn := w.drawn + 1 }) (fun cs => .one ?_) ?_
  · rw [fram_eq, fram_eq]
    have := stepR_region_draw (P := c.P) (b := { (default : Frame) with fn := c.f, kind := .normal, roundOf := c.ro }) (a := a) (k := K) (cs := cs) (w := w) (ops := ops) (id := id)
    rw [this, hmix]; rfl
  · refine (key ops.size _ (Array.replicate ops.size false) E I ?_ (by simp) (.refl _) hbase ?_ ?_ ?_ a { w with drawn := w.drawn + 1 } h k hE hS hR1).mono fun v w' p => p.later (.refl _) ⟨rfl, rfl, rfl⟩
    · have := List.length_filter_le (fun i => !(Array.replicate ops.size false).getD i true) (List.range ops.size)
      simpa [unl] using this
    · intro i _ hi; simp [Array.getD, hi]
    · intro i hi; simp [Array.getD] at hi
    · intro i _ hi; simp [Array.getD] at hi
/-- **A REGION THAT DRAWS ITS ORDER.** 'Spec i': what is known of operation i's value. -/
theorem JJ.draw {c : Cx} {K : List Item} {E : List (Nat × Value)} {D : List Deferred} {I : Hp} {L : List HP} {ops : Array Oper} {id m : Nat} (base : List (Nat × Value)) (Spec : Nat → Hp → Value → Prop) (hmix : c.P.follows .mixedOrders = true) (hok : okR c.N ops = true) (hdraw : drawOk ops m base = true)
    (hmono : ∀ i I I' v, I.le I' → Spec i I v → Spec i I' v) (hbase : covers E base)
    (ob : Reg c.N ops → AllFrom (fun i => ∀ is E I', I.le I' → covers E base → (∀ j ∈ deps ops i, ∃ d v, dstOf ops j = some d ∧ get E d = some v ∧ Spec j I' v) →
      (∀ v I'', I'.le I'' → Spec i I'' v → JJ c (.inRegion ops is :: K) (putE (dstOf ops i) v E) D I'' L) → JJ c (.inRegion ops (i :: is) :: K) E D I' L) 0 m)
    (done : Reg c.N ops → ∀ (vs : Nat → Value) I', I.le I' → AllFrom (fun i => Spec i I' (vs i)) 0 m → JJ c (.inRegion ops (List.range' m (ops.size - m)) :: K) (outsE ops vs m ++ base) D I' L) :
    JJ c (.code (.region id ops true) :: K) E D I L := by
  have hdraw0 := hdraw
  simp only [drawOk, Bool.and_eq_true] at hdraw
  obtain ⟨⟨⟨hm, hlt⟩, hcl⟩, hds⟩ := hdraw
  have hm' : m ≤ ops.size := by simpa using hm
  have h1 : ∀ i, i < ops.size → ∀ j ∈ deps ops i, j < i := fun i hi j hj => by
    have := List.all_eq_true.1 hlt i (by simpa using hi)
    have := List.all_eq_true.1 this j hj
    simpa [Nat.blt_eq] using this
  have h2 : ∀ i, i < ops.size → m ≤ i → ∀ j, j < i → j ∈ clo ops ops.size i := fun i hi hmi j hj => by
    have := List.all_eq_true.1 hcl i (by simpa using hi)
    have h3 : Nat.blt i m = false := by
      cases e : Nat.blt i m with
      | false => rfl
      | true => have : i < m := by simpa [Nat.blt_eq] using e
                omega
    rw [h3, Bool.false_or] at this
    have := List.all_eq_true.1 this j (by simpa using hj)
    simpa using this
  have hT : drawOkT ops m base = true := by
    simp only [drawOkT, Bool.and_eq_true]
    refine ⟨⟨⟨hm, hlt⟩, List.all_eq_true.2 fun i hi => ?_⟩, hds⟩
    have hi' : i < ops.size := by simpa using hi
    rcases Nat.lt_or_ge i m with h | h
    · have : Nat.blt i m = true := by simpa [Nat.blt_eq] using h
      rw [this]; rfl
    · rw [Bool.or_eq_true]; right
      refine List.all_eq_true.2 fun j hj => ?_
      have := h2 i hi' h j (by have : j < m := by simpa using hj
                               omega)
      simpa using this
  exact JJ.drawCore base Spec hmix hok hT (fun l => l = List.range' m (ops.size - m)) (fun fuel t listed hs hl hu hf => go_tail h1 h2 (ops.size - m) m fuel t listed (by omega) hf (Nat.le_refl _) hs hl hu) hmono hbase ob (fun rg vs I' hle hs ord ho => ho ▸ done rg vs I' hle hs)
/-- All orders in which the operations that are left may run. -/
def allGo (ops : Array Oper) : Nat → Array Bool → List (List Nat)
  | 0, _ => [[]]
  | k + 1, listed => match Region.ready .any ops listed with
    | [] => [[]]
    | r :: rs => (r :: rs).flatMap fun i => (allGo ops k (listed.setIfInBounds i true)).map (i :: ·)
theorem go_all {ops : Array Oper} : ∀ (k fuel t : Nat) (listed : Array Bool), listed.size = ops.size → (unl ops.size listed).length ≤ k → (unl ops.size listed).length ≤ fuel → Region.linearise.go .any ops fuel t listed [] ∈ allGo ops k listed := by
  intro k
  induction k with
  | zero =>
    intro fuel t listed hs hk _
    have hr : Region.ready .any ops listed = [] := by
      refine List.eq_nil_iff_forall_not_mem.2 fun i hi => ?_
      obtain ⟨a, b, _⟩ := ready_iff.1 hi
      have : i ∈ unl ops.size listed := by simp only [unl, List.mem_filter, List.mem_range, a]; simp [b]
      rw [List.eq_nil_of_length_eq_zero (by omega : (unl ops.size listed).length = 0)] at this; cases this
    cases fuel with
    | zero => simp [allGo, Region.linearise.go]
    | succ fuel => rw [go_eq, hr]; simp [allGo]
  | succ k ih =>
    intro fuel t listed hs hk hf
    simp only [allGo]
    cases hr : Region.ready .any ops listed with
    | nil =>
      cases fuel with
      | zero => simp [Region.linearise.go]
      | succ fuel => rw [go_eq, hr]; simp
    | cons r rs =>
      cases fuel with
      | zero =>
        have hm : r ∈ Region.ready .any ops listed := by rw [hr]; simp
        obtain ⟨a, b, _⟩ := ready_iff.1 hm
        have : r ∈ unl ops.size listed := by simp only [unl, List.mem_filter, List.mem_range, a]; simp [b]
        rw [List.eq_nil_of_length_eq_zero (by omega : (unl ops.size listed).length = 0)] at this; cases this
      | succ fuel =>
        rw [go_eq, hr]
        have hmod : t % (r :: rs).length < (r :: rs).length := Nat.mod_lt _ (by simp)
        rw [List.getElem?_eq_getElem hmod]
        dsimp only
        have hmem : (r :: rs)[t % (r :: rs).length] ∈ r :: rs := List.getElem_mem hmod
        generalize (r :: rs)[t % (r :: rs).length] = i at hmem
        refine List.mem_flatMap.2 ⟨i, hmem, List.mem_map.2 ⟨_, ih fuel _ _ (by simpa using hs) ?_ ?_, rfl⟩⟩
        all_goals
          have hm : i ∈ Region.ready .any ops listed := by rw [hr]; exact hmem
          obtain ⟨a, b, _⟩ := ready_iff.1 hm
          have := unl_lt hs b a
          omega
/-- The first m are listed. -/
def firstA (n m : Nat) : Array Bool := (Array.range n).map fun i => Nat.blt i m
theorem firstA_eq {n m : Nat} {listed : Array Bool} (hs : listed.size = n) (hm : m ≤ n) (hl : ∀ i, i < m → listed.getD i false = true) (hu : ∀ i, m ≤ i → i < n → listed.getD i true = false) : listed = firstA n m := by
  refine Array.ext (by simp [firstA, hs]) fun i h1 h2 => ?_
  rcases Nat.lt_or_ge i m with h | h
  · have := hl i h
    simp only [Array.getD, h1, dif_pos] at this
    have hb : Nat.blt i m = true := by simpa [Nat.blt_eq] using h
    simp [firstA, hb]; exact this
  · have := hu i h (by omega)
    simp only [Array.getD, h1, dif_pos] at this
    have hb : Nat.blt i m = false := by
      cases e : Nat.blt i m with
      | false => rfl
      | true => have : i < m := by simpa [Nat.blt_eq] using e
                omega
    simp [firstA, hb]; exact this
/-- A region that draws its order: 'ords' are the orders of what comes behind the free ones. -/
theorem JJ.drawT {c : Cx} {K : List Item} {E : List (Nat × Value)} {D : List Deferred} {I : Hp} {L : List HP} {ops : Array Oper} {id m : Nat} (ords : List (List Nat)) (base : List (Nat × Value)) (Spec : Nat → Hp → Value → Prop) (hmix : c.P.follows .mixedOrders = true) (hok : okR c.N ops = true) (hdraw : drawOkT ops m base = true)
    (hords : allGo ops (ops.size - m) (firstA ops.size m) = ords)
    (hmono : ∀ i I I' v, I.le I' → Spec i I v → Spec i I' v) (hbase : covers E base)
    (ob : Reg c.N ops → AllFrom (fun i => ∀ is E I', I.le I' → covers E base → (∀ j ∈ deps ops i, ∃ d v, dstOf ops j = some d ∧ get E d = some v ∧ Spec j I' v) →
      (∀ v I'', I'.le I'' → Spec i I'' v → JJ c (.inRegion ops is :: K) (putE (dstOf ops i) v E) D I'' L) → JJ c (.inRegion ops (i :: is) :: K) E D I' L) 0 m)
    (done : Reg c.N ops → ∀ (vs : Nat → Value) I', I.le I' → AllFrom (fun i => Spec i I' (vs i)) 0 m → ∀ ord ∈ ords, JJ c (.inRegion ops ord :: K) (outsE ops vs m ++ base) D I' L) :
    JJ c (.code (.region id ops true) :: K) E D I L := by
  have hm' : m ≤ ops.size := by
    simp only [drawOkT, Bool.and_eq_true] at hdraw
    simpa using hdraw.1.1.1
  refine JJ.drawCore base Spec hmix hok hdraw (fun l => l ∈ ords) (fun fuel t listed hs hl hu hf => ?_) hmono hbase ob (fun rg vs I' hle hs ord ho => done rg vs I' hle hs ord ho)
  have he := firstA_eq hs hm' hl hu
  have hlen : (unl ops.size listed).length ≤ ops.size - m := by
    have : unl ops.size listed = List.range' m (ops.size - m) := by
      unfold unl
      have e3 : List.range ops.size = List.range m ++ List.range' m (ops.size - m) := by
        rw [List.range_eq_range', List.range_eq_range']
        have := List.range'_append_1 (s := 0) (m := m) (n := ops.size - m)
        simp only [Nat.zero_add] at this
        rw [this]; congr 1; omega
      rw [e3, List.filter_append]
      have e4 : (List.range m).filter (fun i => !listed.getD i true) = [] := by
        refine List.filter_eq_nil_iff.2 fun i hi => ?_
        have hi' : i < m := by simpa using hi
        have := hl i hi'
        have hlt : i < listed.size := by omega
        simp only [Array.getD, hlt, dif_pos] at this ⊢
        have h9 : listed[i] = true := this
        simp [h9]
      have e5 : (List.range' m (ops.size - m)).filter (fun i => !listed.getD i true) = List.range' m (ops.size - m) := by
        refine List.filter_eq_self.2 fun i hi => ?_
        have h9 := List.mem_range'_1.1 hi
        rw [hu i h9.1 (by omega)]; rfl
      rw [e4, e5]; rfl
    rw [this, List.length_range']; exact Nat.le_refl _
  have := go_all (ops := ops) (ops.size - m) fuel t listed hs hlen (by omega)
  rw [he] at this ⊢
  rw [hords] at this
  exact this
end Go.Proofs.Ytlcdafeoionnhaa
