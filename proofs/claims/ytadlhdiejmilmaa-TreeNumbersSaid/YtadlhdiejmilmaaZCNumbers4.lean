/- 'Rows.TreeNumbersSaid': cardindex/cardindexlaw04.TreeNumbers answers true and changes nothing: the fixed examples of the chapter. -/
import Derived.Test.YtadlhdiejmilmaaRows
import Derived.Test.YtadlhdiejmilmaaZCNumbers4P8
import Derived.Test.YtadlhdiejmilmaaZCNumbers4P2
set_option linter.unusedVariables false
namespace Go.Proofs.Ytadlhdiejmilmaa
open Go Go.Sx Go.ChangeShapes Go.WideShapes Go.ChangeAt Go.RowKit
theorem treeNumbersOwn : ownKnob Try.prog.godebug = none := by kernel_rfl
set_option maxRecDepth 100000 in
theorem treeNumbersLifted (os : Os) (started : os.Started) (H : Type) (enc : TypeId × Value → H) :
    ReturnsInHanded {} Try.checked os 9 .any (Rows.treeNumbersSpec.pre6 enc Try.prog Try.f9 Rows.treeNumbersRow.domain false) (Rows.treeNumbersSpec.post enc Try.prog Try.f9 false true false false) := by
  refine returnsInHanded_of_change (C := Try.checked) treeNumbersOwn started (by kernel_rfl) Try.func9
    (ChangeSpec.witness6 (enc := enc) (C := Try.checked) false ⟨#[], #[], []⟩ 8 (by kernel_rfl) (by kernel_rfl) (by kernel_rfl) (by kernel_rfl)) ?_
  intro W base args ds gs before hval0 hW hcnd _
  have hval : ∀ (j : Nat) t v, Try.f9.params[j]? = some t → args[j]? = some v → Value.okWide Try.prog W .any base t v := hval0
  have hW' := hW
  obtain ⟨p, q, hA0, hV, rfl, hfz, hnd⟩ := hW
  obtain ⟨rfl, rfl⟩ := trodVars_none hV
  obtain ⟨rfl, rfl, rfl⟩ := trodAll_none (show DataW.TrodAll enc Try.prog W 0 (fun _ => true) true [] args.toList ds p from hA0)
  refine (TreeNumbers_spec _).mono fun v W1 ⟨he, hg⟩ => ?_
  subst he
  exact post_law hW' rfl rfl (by kernel_rfl) (by decide +kernel) rfl Try.underlying4 hg
theorem treeNumbersOver : Rows.treeNumbersRow.holds Try.pinned (OpenSpec.ofChange Rows.treeNumbersSpec) :=
  OpenClaim.holds_of_wide 9 Try.f9 rfl rfl rfl rfl rfl rfl rfl ⟨rfl, rfl, rfl, rfl, rfl⟩ rfl rfl rfl rfl rfl (by kernel_rfl) Try.func9 (by kernel_rfl)
    (of_decide_eq_true (by kernel_rfl)) (by unfold Func.isWrapper; first | (rw [if_pos (by decide +kernel)]; kernel_rfl) | (rw [if_neg (by decide +kernel)]; exact ⟨rfl, rfl⟩))
    (fun os started H enc _ => treeNumbersLifted os started H enc)
theorem treeNumbers_holds : Rows.TreeNumbersSaid := treeNumbersOver
#print axioms treeNumbers_holds
end Go.Proofs.Ytadlhdiejmilmaa
