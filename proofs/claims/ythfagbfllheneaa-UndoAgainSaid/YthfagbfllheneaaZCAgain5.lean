/- 'Rows.UndoAgainSaid': cardindex/cardindexlaw05.UndoAgain answers true and changes nothing: for every calls. -/
import Derived.Test.YthfagbfllheneaaRows
import Derived.Test.YthfagbfllheneaaZCAgain5P8
import Derived.Test.YthfagbfllheneaaZCAgain5P2
set_option linter.unusedVariables false
namespace Go.Proofs.Ythfagbfllheneaa
open Go Go.Sx Go.ChangeShapes Go.WideShapes Go.ChangeAt Go.RowKit
theorem undoAgainOwn : ownKnob Try.prog.godebug = none := by kernel_rfl
set_option maxRecDepth 100000 in
theorem undoAgainLifted (os : Os) (started : os.Started) (H : Type) (enc : TypeId × Value → H) :
    ReturnsInHanded {} Try.checked os 5 .any (Rows.undoAgainSpec.pre6 enc Try.prog Try.f5 Rows.undoAgainRow.domain false) (Rows.undoAgainSpec.post enc Try.prog Try.f5 false true false false) := by
  refine returnsInHanded_of_change (C := Try.checked) undoAgainOwn started (by kernel_rfl) Try.func5
    (ChangeSpec.witness6 (enc := enc) (C := Try.checked) false ⟨#[], #[.slice none 0 0, .slice none 0 0], []⟩ 8 (by kernel_rfl) (by kernel_rfl) (by kernel_rfl) (by kernel_rfl)) ?_
  intro W base args ds gs before hval0 hW hcnd _
  have hval : ∀ (j : Nat) t v, Try.f5.params[j]? = some t → args[j]? = some v → Value.okWide Try.prog W .any base t v := hval0
  have hW' := hW
  obtain ⟨p, q, hA0, hV, rfl, hfz, hnd⟩ := hW
  obtain ⟨rfl, rfl⟩ := trodVars_none hV
  have r0 : DataW.TrodAll enc Try.prog W 0 (fun _ => true) true [22, 22] args.toList ds p := hA0
  obtain ⟨v0, vs0, d0, ds0, p0, q0, hargs, rfl, rfl, h0, r1⟩ := trodAll_cons r0
  obtain ⟨v1, vs1, d1, ds1, p1, q1, rfl, rfl, rfl, h1, r2⟩ := trodAll_cons r1
  obtain ⟨rfl, rfl, rfl⟩ := trodAll_nil r2
  obtain rfl : args = #[v0, v1] := by cases args; simp_all
  obtain ⟨A_ahead, c_ahead, ahead, rfl, hc_ahead, hm_ahead, hi_ahead, hg_ahead⟩ := arg_slice (K := KOp) Try.underlying22 (by kernel_rfl) (by decide) opens_Op (hval 0 22 v0 rfl rfl) h0
  obtain ⟨A_ops, c_ops, ops, rfl, hc_ops, hm_ops, hi_ops, hg_ops⟩ := arg_slice (K := KOp) Try.underlying22 (by kernel_rfl) (by decide) opens_Op (hval 1 22 v1 rfl rfl) h1
  refine (UndoAgain_spec hi_ahead hi_ops).mono fun v W1 ⟨he, hg⟩ => ?_
  subst he
  exact post_law hW' rfl rfl (by kernel_rfl) (by decide +kernel) rfl Try.underlying4 hg
theorem undoAgainOver : Rows.undoAgainRow.holds Try.pinned (OpenSpec.ofChange Rows.undoAgainSpec) :=
  OpenClaim.holds_of_wide 5 Try.f5 rfl rfl rfl rfl rfl rfl rfl ⟨rfl, rfl, rfl, rfl, rfl⟩ rfl rfl rfl rfl rfl (by kernel_rfl) Try.func5 (by kernel_rfl)
    (of_decide_eq_true (by kernel_rfl)) (by unfold Func.isWrapper; first | (rw [if_pos (by decide +kernel)]; kernel_rfl) | (rw [if_neg (by decide +kernel)]; exact ⟨rfl, rfl⟩))
    (fun os started H enc _ => undoAgainLifted os started H enc)
theorem undoAgain_holds : Rows.UndoAgainSaid := undoAgainOver
#print axioms undoAgain_holds
end Go.Proofs.Ythfagbfllheneaa
