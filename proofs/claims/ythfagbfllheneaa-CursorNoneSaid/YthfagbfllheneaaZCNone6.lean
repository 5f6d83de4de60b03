/- 'Rows.CursorNoneSaid': cardindex/cardindexlaw06.CursorNone answers true and changes nothing: for every way, key and value. -/
import Derived.Test.YthfagbfllheneaaRows
import Derived.Test.YthfagbfllheneaaZCNone6P7
import Derived.Test.YthfagbfllheneaaZCNone6P2
set_option linter.unusedVariables false
namespace Go.Proofs.Ythfagbfllheneaa
open Go Go.Sx Go.ChangeShapes Go.WideShapes Go.ChangeAt Go.RowKit
theorem cursorNoneOwn : ownKnob Try.prog.godebug = none := by kernel_rfl
set_option maxRecDepth 100000 in
theorem cursorNoneLifted (os : Os) (started : os.Started) (H : Type) (enc : TypeId × Value → H) :
    ReturnsInHanded {} Try.checked os 11 .any (Rows.cursorNoneSpec.pre6 enc Try.prog Try.f11 Rows.cursorNoneRow.domain false) (Rows.cursorNoneSpec.post enc Try.prog Try.f11 false true false false) := by
  refine returnsInHanded_of_change (C := Try.checked) cursorNoneOwn started (by kernel_rfl) Try.func11
    (ChangeSpec.witness6 (enc := enc) (C := Try.checked) false ⟨#[], #[.int .u8 0, .slice none 0 0, .slice none 0 0], []⟩ 8 (by kernel_rfl) (by kernel_rfl) (by kernel_rfl) (by kernel_rfl)) ?_
  intro W base args ds gs before hval0 hW hcnd _
  have hval : ∀ (j : Nat) t v, Try.f11.params[j]? = some t → args[j]? = some v → Value.okWide Try.prog W .any base t v := hval0
  have hW' := hW
  obtain ⟨p, q, hA0, hV, rfl, hfz, hnd⟩ := hW
  obtain ⟨rfl, rfl⟩ := trodVars_none hV
  have r0 : DataW.TrodAll enc Try.prog W 0 (fun _ => true) true [96, 28, 28] args.toList ds p := hA0
  obtain ⟨v0, vs0, d0, ds0, p0, q0, hargs, rfl, rfl, h0, r1⟩ := trodAll_cons r0
  obtain ⟨v1, vs1, d1, ds1, p1, q1, rfl, rfl, rfl, h1, r2⟩ := trodAll_cons r1
  obtain ⟨v2, vs2, d2, ds2, p2, q2, rfl, rfl, rfl, h2, r3⟩ := trodAll_cons r2
  obtain ⟨rfl, rfl, rfl⟩ := trodAll_nil r3
  obtain rfl : args = #[v0, v1, v2] := by cases args; simp_all
  obtain ⟨x0, rfl, rfl, rfl, w0⟩ := open_int Try.underlying96 (hval 0 96 v0 rfl rfl) h0
  obtain ⟨how, rfl, h_how⟩ := u8_nat w0
  obtain ⟨A_k, c_k, k, rfl, hc_k, hm_k, hi_k, hg_k⟩ := arg_slice (K := KB) Try.underlying28 (by kernel_rfl) (by decide) (opens_u8 Try.underlying5) (hval 1 28 v1 rfl rfl) h1
  obtain ⟨A_v, c_v, v, rfl, hc_v, hm_v, hi_v, hg_v⟩ := arg_slice (K := KB) Try.underlying28 (by kernel_rfl) (by decide) (opens_u8 Try.underlying5) (hval 2 28 v2 rfl rfl) h2
  refine (CursorNone_spec how _ _ _ _ _ _).mono fun v W1 ⟨he, hg⟩ => ?_
  subst he
  exact post_law hW' rfl rfl (by kernel_rfl) (by decide +kernel) rfl Try.underlying4 hg
theorem cursorNoneOver : Rows.cursorNoneRow.holds Try.pinned (OpenSpec.ofChange Rows.cursorNoneSpec) :=
  OpenClaim.holds_of_wide 11 Try.f11 rfl rfl rfl rfl rfl rfl rfl ⟨rfl, rfl, rfl, rfl, rfl⟩ rfl rfl rfl rfl rfl (by kernel_rfl) Try.func11 (by kernel_rfl)
    (of_decide_eq_true (by kernel_rfl)) (by unfold Func.isWrapper; first | (rw [if_pos (by decide +kernel)]; kernel_rfl) | (rw [if_neg (by decide +kernel)]; exact ⟨rfl, rfl⟩))
    (fun os started H enc _ => cursorNoneLifted os started H enc)
theorem cursorNone_holds : Rows.CursorNoneSaid := cursorNoneOver
#print axioms cursorNone_holds
end Go.Proofs.Ythfagbfllheneaa
