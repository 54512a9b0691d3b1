/- flotsamlaw44.FlatPlain returns true at every program that it is handed, and leaves it as it was. Condition: what is handed over is of bulk at most 1048576. -/
import Derived.Test.YtlcdafeoionnhaaLaw
import Derived.Test.YtlcdafeoionnhaaPlain
namespace Go.Proofs.Ytlcdafeoionnhaa
open Go Go.ChangeShapes Go.WideShapes Go.ChangeAt Go.RowKit
set_option linter.unusedVariables false
theorem fp_true {I : Hp} {cs : List Value} {p : Pg} (h : RP I cs p) (hgl : GL 0 I) (hz : p.sz ≤ 1048576) : Fn Try.prog 3 #[.agg cs.toArray] I [] (Ret (X := Unit) (fun _ _ => True) (fun _ => .bool true) fun _ => []) := by
  obtain ⟨h1, h2, h3, h4⟩ := flat_bounds (p := p) (by omega)
  have h0 := Wq.flatPlain I cs p h hgl (by omega) h1 h2 h3 h4
  rw [flatPlain_true (by omega)] at h0
  exact h0
set_option maxRecDepth 100000 in
theorem fp_lifted (os : Go.Os) (started : os.Started) (H : Type) (enc : TypeId × Value → H) (F : Stop.Interp) :
    ReturnsInHanded {} Try.checked os 3 .any ((Rows.OpenSpec.upto Rows.flatPlainSpec).pre6 enc Try.prog Try.f3 Rows.flatPlainUptoRow.domain false) (((Rows.OpenSpec.upto Rows.flatPlainSpec).at F).post enc Try.prog Try.f3 false true false false) := by
  refine handed_shaped (C := Try.checked) (s := Rows.OpenSpec.upto Rows.flatPlainSpec) (k := Rows.uptoSmall) rfl ownP started (by kernel_rfl) Try.func3
    (OpenSpec.witness (enc := enc) (C := Try.checked) (s := Rows.OpenSpec.upto Rows.flatPlainSpec) (k := Rows.uptoSmall) rfl false ⟨#[], #[.agg #[.slice none 0 0, .slice none 0 0, .slice none 0 0, .slice none 0 0]], []⟩ 8 (by kernel_rfl) (by kernel_rfl) (by kernel_rfl)
      (x := ([.agg [.nil, .nil, .nil, .nil]], [], [])) (by kernel_rfl) rfl (by kernel_rfl)) ?_
  intro W base args ds gs before hval0 hW hk hsh
  have hval : ∀ (j : Nat) t v, Try.f3.params[j]? = some t → args[j]? = some v → Value.okWide Try.prog W .any base t v := hval0
  have hW' := hW
  obtain ⟨p, q, hA0, hV, rfl, _, _⟩ := hW
  have hA : DataW.TrodAll enc Try.prog W 0 (fun _ => true) true Try.f3.params.toList args.toList ds p := hA0
  rw [Try.params3] at hA hval
  obtain ⟨v0, d0, rfl, rfl, h0⟩ := trodAll_one hA
  obtain ⟨rfl, rfl⟩ := trodVars_none hV
  obtain ⟨cs, p, rfl, hp, hb⟩ := openPg (hval 0 _ v0 rfl rfl) h0
  have hk' : Rows.uptoBulkAll ([d0] ++ []) ≤ 1048576 := of_decide_eq_true hk
  simp only [List.append_nil, Rows.uptoBulkAll] at hk'
  exact law_calls (fp_true hp (glP hsh) (by omega)) rfl rfl (by kernel_rfl) Try.underlying4 kidsP fullP (by rw [Try.params3]; decide) hW'
theorem flatPlain_holds : Rows.FlatPlainUptoSaid :=
  OpenClaim.holds_of_cond 3 Try.f3 rfl rfl rfl rfl rfl rfl rfl ⟨rfl, rfl, rfl, rfl, rfl⟩ rfl rfl rfl rfl rfl (by kernel_rfl) Try.func3 (by kernel_rfl)
    (of_decide_eq_true (by kernel_rfl)) (by unfold Func.isWrapper; first | (rw [if_pos (by decide +kernel)]; kernel_rfl) | (rw [if_neg (by decide +kernel)]; exact ⟨rfl, rfl⟩))
    (fun os started H enc _ F => fp_lifted os started H enc F)
end Go.Proofs.Ytlcdafeoionnhaa
