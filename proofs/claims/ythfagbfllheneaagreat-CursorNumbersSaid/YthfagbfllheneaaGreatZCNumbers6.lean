/- 'Rows.CursorNumbersSaid': cardindex/cardindexlaw06.CursorNumbers answers true and changes nothing: it takes nothing. -/
import Derived.Test.YthfagbfllheneaaGreatRows
import Derived.Test.YthfagbfllheneaaGreatZCNumbers6P8
import Derived.Test.YthfagbfllheneaaGreatZCNumbers6P3
set_option linter.unusedVariables false
namespace Go.Proofs.YthfagbfllheneaaGreat
open Go Go.Sx Go.ChangeShapes Go.WideShapes Go.ChangeAt Go.RowKit
theorem cursorNumbersOwn : ownKnob Tryz.prog.godebug = none := by kernel_rfl
set_option maxRecDepth 100000 in
theorem cursorNumbersLifted (os : Os) (started : os.Started) (H : Type) (enc : TypeId × Value → H) :
    ReturnsInHanded {} Tryz.checked os 3 .any (Rows.cursorNumbersSpec.pre6 enc Tryz.prog Tryz.f3 Rows.cursorNumbersRow.domain false) (Rows.cursorNumbersSpec.post enc Tryz.prog Tryz.f3 false true false false) := by
  refine returnsInHanded_of_change (C := Tryz.checked) cursorNumbersOwn started (by kernel_rfl) Tryz.func3
    (ChangeSpec.witness6 (enc := enc) (C := Tryz.checked) false ⟨#[], #[], []⟩ 8 (by kernel_rfl) (by kernel_rfl) (by kernel_rfl) (by kernel_rfl)) ?_
  intro W base args ds gs before hval0 hW hcnd _
  have hval : ∀ (j : Nat) t v, Tryz.f3.params[j]? = some t → args[j]? = some v → Value.okWide Tryz.prog W .any base t v := hval0
  have hW' := hW
  obtain ⟨p, q, hA0, hV, rfl, hfz, hnd⟩ := hW
  obtain ⟨rfl, rfl⟩ := trodVars_none hV
  obtain ⟨rfl, rfl, rfl⟩ := trodAll_none (show DataW.TrodAll enc Tryz.prog W 0 (fun _ => true) true [] args.toList ds p from hA0)
  refine (CursorNumbers_spec W).mono fun v W1 ⟨he, hg⟩ => ?_
  subst he
  exact post_law hW' rfl rfl (by kernel_rfl) (by decide +kernel) rfl Tryz.underlying4 hg
theorem cursorNumbersOver : Rows.cursorNumbersRow.holds Tryz.pinned (OpenSpec.ofChange Rows.cursorNumbersSpec) :=
  OpenClaim.holds_of_wide 3 Tryz.f3 rfl rfl rfl rfl rfl rfl rfl ⟨rfl, rfl, rfl, rfl, rfl⟩ rfl rfl rfl rfl rfl (by kernel_rfl) Tryz.func3 (by kernel_rfl)
    (of_decide_eq_true (by kernel_rfl)) (by unfold Func.isWrapper; first | (rw [if_pos (by decide +kernel)]; kernel_rfl) | (rw [if_neg (by decide +kernel)]; exact ⟨rfl, rfl⟩))
    (fun os started H enc _ => cursorNumbersLifted os started H enc)
theorem cursorNumbers_holds : Rows.CursorNumbersSaid := cursorNumbersOver
#print axioms cursorNumbers_holds
end Go.Proofs.YthfagbfllheneaaGreat
