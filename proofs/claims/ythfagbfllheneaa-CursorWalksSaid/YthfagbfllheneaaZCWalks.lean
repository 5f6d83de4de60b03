/- 'Rows.CursorWalksSaid': cardindex/cardindexlaw06.CursorWalks answers true and changes nothing: for any keys (the first 200) and any bytes put in or taken away between the steps. -/
import Derived.Test.YthfagbfllheneaaRows
import Derived.Test.YthfagbfllheneaaZCWalksP8
import Derived.Test.YthfagbfllheneaaZCWalksP3
set_option linter.unusedVariables false
namespace Go.Proofs.Ythfagbfllheneaa
open Go Go.Sx Go.ChangeShapes Go.WideShapes Go.ChangeAt Go.RowKit
theorem cursorWalksOwn : ownKnob Try.prog.godebug = none := by kernel_rfl
set_option maxRecDepth 100000 in
theorem cursorWalksLifted (os : Os) (started : os.Started) (H : Type) (enc : TypeId × Value → H) :
    ReturnsInHanded {} Try.checked os 12 .any (Rows.cursorWalksSpec.pre6 enc Try.prog Try.f12 Rows.cursorWalksRow.domain false) (Rows.cursorWalksSpec.post enc Try.prog Try.f12 false true false false) := by
  refine returnsInHanded_of_change (C := Try.checked) cursorWalksOwn started (by kernel_rfl) Try.func12
    (ChangeSpec.witness6 (enc := enc) (C := Try.checked) false ⟨#[], #[.slice none 0 0, .slice none 0 0], []⟩ 8 (by kernel_rfl) (by kernel_rfl) (by kernel_rfl) (by kernel_rfl)) ?_
  intro W base args ds gs before hval0 hW hcnd _
  have hval : ∀ (j : Nat) t v, Try.f12.params[j]? = some t → args[j]? = some v → Value.okWide Try.prog W .any base t v := hval0
  have hW' := hW
  obtain ⟨p, q, hA0, hV, rfl, hfz, hnd⟩ := hW
  obtain ⟨rfl, rfl⟩ := trodVars_none hV
  have r0 : DataW.TrodAll enc Try.prog W 0 (fun _ => true) true [28, 106] args.toList ds p := hA0
  obtain ⟨v0, vs0, d0, ds0, p0, q0, hargs, rfl, rfl, h0, r1⟩ := trodAll_cons r0
  obtain ⟨v1, vs1, d1, ds1, p1, q1, rfl, rfl, rfl, h1, r2⟩ := trodAll_cons r1
  obtain ⟨rfl, rfl, rfl⟩ := trodAll_nil r2
  obtain rfl : args = #[v0, v1] := by cases args; simp_all
  obtain ⟨A_k, c_k, k, rfl, hc_k, hm_k, hi_k, hg_k⟩ := arg_slice (K := KB) Try.underlying28 (by kernel_rfl) (by decide) (opens_u8 Try.underlying5) (hval 0 28 v0 rfl rfl) h0
  obtain ⟨A_b, c_b, b, rfl, hc_b, hm_b, hi_b, hg_b⟩ := arg_slice (K := KU) Try.underlying106 (by kernel_rfl) (by decide) (opens_int Try.underlying107) (hval 1 106 v1 rfl rfl) h1
  refine (CursorWalks_spec hi_k hc_k hi_b).mono fun v W1 ⟨he, hg⟩ => ?_
  subst he
  exact post_law hW' rfl rfl (by kernel_rfl) (by decide +kernel) rfl Try.underlying4 hg
theorem cursorWalksOver : Rows.cursorWalksRow.holds Try.pinned (OpenSpec.ofChange Rows.cursorWalksSpec) :=
  OpenClaim.holds_of_wide 12 Try.f12 rfl rfl rfl rfl rfl rfl rfl ⟨rfl, rfl, rfl, rfl, rfl⟩ rfl rfl rfl rfl rfl (by kernel_rfl) Try.func12 (by kernel_rfl)
    (of_decide_eq_true (by kernel_rfl)) (by unfold Func.isWrapper; first | (rw [if_pos (by decide +kernel)]; kernel_rfl) | (rw [if_neg (by decide +kernel)]; exact ⟨rfl, rfl⟩))
    (fun os started H enc _ => cursorWalksLifted os started H enc)
theorem cursorWalks_holds : Rows.CursorWalksSaid := cursorWalksOver
#print axioms cursorWalks_holds
end Go.Proofs.Ythfagbfllheneaa
