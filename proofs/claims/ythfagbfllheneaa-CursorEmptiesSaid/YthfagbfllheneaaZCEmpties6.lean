/- 'Rows.CursorEmptiesSaid': cardindex/cardindexlaw06.CursorEmpties answers true and changes nothing: for any keys (the first 200), forwards or back, all entries or every second one. -/
import Derived.Test.YthfagbfllheneaaRows
import Derived.Test.YthfagbfllheneaaZCEmpties6P9
import Derived.Test.YthfagbfllheneaaZCEmpties6P3
set_option linter.unusedVariables false
namespace Go.Proofs.Ythfagbfllheneaa
open Go Go.Sx Go.ChangeShapes Go.WideShapes Go.ChangeAt Go.RowKit
theorem cursorEmptiesOwn : ownKnob Try.prog.godebug = none := by kernel_rfl
set_option maxRecDepth 100000 in
theorem cursorEmptiesLifted (os : Os) (started : os.Started) (H : Type) (enc : TypeId × Value → H) :
    ReturnsInHanded {} Try.checked os 13 .any (Rows.cursorEmptiesSpec.pre6 enc Try.prog Try.f13 Rows.cursorEmptiesRow.domain false) (Rows.cursorEmptiesSpec.post enc Try.prog Try.f13 false true false false) := by
  refine returnsInHanded_of_change (C := Try.checked) cursorEmptiesOwn started (by kernel_rfl) Try.func13
    (ChangeSpec.witness6 (enc := enc) (C := Try.checked) false ⟨#[], #[.slice none 0 0, .bool false, .bool false], []⟩ 8 (by kernel_rfl) (by kernel_rfl) (by kernel_rfl) (by kernel_rfl)) ?_
  intro W base args ds gs before hval0 hW hcnd _
  have hval : ∀ (j : Nat) t v, Try.f13.params[j]? = some t → args[j]? = some v → Value.okWide Try.prog W .any base t v := hval0
  have hW' := hW
  obtain ⟨p, q, hA0, hV, rfl, hfz, hnd⟩ := hW
  obtain ⟨rfl, rfl⟩ := trodVars_none hV
  have r0 : DataW.TrodAll enc Try.prog W 0 (fun _ => true) true [28, 4, 4] args.toList ds p := hA0
  obtain ⟨v0, vs0, d0, ds0, p0, q0, hargs, rfl, rfl, h0, r1⟩ := trodAll_cons r0
  obtain ⟨v1, vs1, d1, ds1, p1, q1, rfl, rfl, rfl, h1, r2⟩ := trodAll_cons r1
  obtain ⟨v2, vs2, d2, ds2, p2, q2, rfl, rfl, rfl, h2, r3⟩ := trodAll_cons r2
  obtain ⟨rfl, rfl, rfl⟩ := trodAll_nil r3
  obtain rfl : args = #[v0, v1, v2] := by cases args; simp_all
  obtain ⟨A_k, c_k, k, rfl, hc_k, hm_k, hi_k, hg_k⟩ := arg_slice (K := KB) Try.underlying28 (by kernel_rfl) (by decide) (opens_u8 Try.underlying5) (hval 0 28 v0 rfl rfl) h0
  obtain ⟨back, rfl, rfl, rfl⟩ := open_bool Try.underlying4 (hval 1 4 v1 rfl rfl) h1
  obtain ⟨second, rfl, rfl, rfl⟩ := open_bool Try.underlying4 (hval 2 4 v2 rfl rfl) h2
  refine (CursorEmpties_spec hi_k hc_k back second).mono fun v W1 ⟨he, hg⟩ => ?_
  subst he
  exact post_law hW' rfl rfl (by kernel_rfl) (by decide +kernel) rfl Try.underlying4 hg
theorem cursorEmptiesOver : Rows.cursorEmptiesRow.holds Try.pinned (OpenSpec.ofChange Rows.cursorEmptiesSpec) :=
  OpenClaim.holds_of_wide 13 Try.f13 rfl rfl rfl rfl rfl rfl rfl ⟨rfl, rfl, rfl, rfl, rfl⟩ rfl rfl rfl rfl rfl (by kernel_rfl) Try.func13 (by kernel_rfl)
    (of_decide_eq_true (by kernel_rfl)) (by unfold Func.isWrapper; first | (rw [if_pos (by decide +kernel)]; kernel_rfl) | (rw [if_neg (by decide +kernel)]; exact ⟨rfl, rfl⟩))
    (fun os started H enc _ => cursorEmptiesLifted os started H enc)
theorem cursorEmpties_holds : Rows.CursorEmptiesSaid := cursorEmptiesOver
#print axioms cursorEmpties_holds
end Go.Proofs.Ythfagbfllheneaa
