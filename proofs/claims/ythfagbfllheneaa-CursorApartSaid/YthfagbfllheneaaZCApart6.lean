/- 'Rows.CursorApartSaid': cardindex/cardindexlaw06.CursorApart answers true and changes nothing: for any keys (the first 200) and any moves of one cursor (the first 60). -/
import Derived.Test.YthfagbfllheneaaRows
import Derived.Test.YthfagbfllheneaaZCApart6P9
import Derived.Test.YthfagbfllheneaaZCApart6P3
set_option linter.unusedVariables false
namespace Go.Proofs.Ythfagbfllheneaa
open Go Go.Sx Go.ChangeShapes Go.WideShapes Go.ChangeAt Go.RowKit
theorem cursorApartOwn : ownKnob Try.prog.godebug = none := by kernel_rfl
set_option maxRecDepth 100000 in
theorem cursorApartLifted (os : Os) (started : os.Started) (H : Type) (enc : TypeId × Value → H) :
    ReturnsInHanded {} Try.checked os 14 .any (Rows.cursorApartSpec.pre6 enc Try.prog Try.f14 Rows.cursorApartRow.domain false) (Rows.cursorApartSpec.post enc Try.prog Try.f14 false true false false) := by
  refine returnsInHanded_of_change (C := Try.checked) cursorApartOwn started (by kernel_rfl) Try.func14
    (ChangeSpec.witness6 (enc := enc) (C := Try.checked) false ⟨#[], #[.slice none 0 0, .slice none 0 0], []⟩ 8 (by kernel_rfl) (by kernel_rfl) (by kernel_rfl) (by kernel_rfl)) ?_
  intro W base args ds gs before hval0 hW hcnd _
  have hval : ∀ (j : Nat) t v, Try.f14.params[j]? = some t → args[j]? = some v → Value.okWide Try.prog W .any base t v := hval0
  have hW' := hW
  obtain ⟨p, q, hA0, hV, rfl, hfz, hnd⟩ := hW
  obtain ⟨rfl, rfl⟩ := trodVars_none hV
  have r0 : DataW.TrodAll enc Try.prog W 0 (fun _ => true) true [28, 111] args.toList ds p := hA0
  obtain ⟨v0, vs0, d0, ds0, p0, q0, hargs, rfl, rfl, h0, r1⟩ := trodAll_cons r0
  obtain ⟨v1, vs1, d1, ds1, p1, q1, rfl, rfl, rfl, h1, r2⟩ := trodAll_cons r1
  obtain ⟨rfl, rfl, rfl⟩ := trodAll_nil r2
  obtain rfl : args = #[v0, v1] := by cases args; simp_all
  obtain ⟨A_k, c_k, k, rfl, hc_k, hm_k, hi_k, hg_k⟩ := arg_slice (K := KB) Try.underlying28 (by kernel_rfl) (by decide) (opens_u8 Try.underlying5) (hval 0 28 v0 rfl rfl) h0
  obtain ⟨A_o, c_o, o, rfl, hc_o, hm_o, hi_o, hg_o⟩ := arg_slice (K := KOp6) Try.underlying111 (by kernel_rfl) (by decide) opens_Op6 (hval 1 111 v1 rfl rfl) h1
  refine (CursorApart_spec hi_k hc_k hi_o).mono fun v W1 ⟨he, hg⟩ => ?_
  subst he
  exact post_law hW' rfl rfl (by kernel_rfl) (by decide +kernel) rfl Try.underlying4 hg
theorem cursorApartOver : Rows.cursorApartRow.holds Try.pinned (OpenSpec.ofChange Rows.cursorApartSpec) :=
  OpenClaim.holds_of_wide 14 Try.f14 rfl rfl rfl rfl rfl rfl rfl ⟨rfl, rfl, rfl, rfl, rfl⟩ rfl rfl rfl rfl rfl (by kernel_rfl) Try.func14 (by kernel_rfl)
    (of_decide_eq_true (by kernel_rfl)) (by unfold Func.isWrapper; first | (rw [if_pos (by decide +kernel)]; kernel_rfl) | (rw [if_neg (by decide +kernel)]; exact ⟨rfl, rfl⟩))
    (fun os started H enc _ => cursorApartLifted os started H enc)
theorem cursorApart_holds : Rows.CursorApartSaid := cursorApartOver
#print axioms cursorApart_holds
end Go.Proofs.Ythfagbfllheneaa
