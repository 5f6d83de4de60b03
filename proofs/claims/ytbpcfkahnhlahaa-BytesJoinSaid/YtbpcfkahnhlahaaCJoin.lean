/- 'Rows.BytesJoinSaid': cardindex/cardindexlaw01.BytesJoin answers true and changes nothing: for every two lists. -/
import Derived.Test.YtbpcfkahnhlahaaRows
import Derived.Test.YtbpcfkahnhlahaaBJoin
import Derived.Test.YtbpcfkahnhlahaaSxOpen
set_option linter.unusedVariables false
namespace Go.Proofs.Ytbpcfkahnhlahaa
open Go Go.Sx Go.ChangeShapes Go.WideShapes Go.ChangeAt Go.RowKit
theorem bytesJoinOwn : ownKnob Try.prog.godebug = none := by kernel_rfl
set_option maxRecDepth 100000 in
theorem bytesJoinLifted (os : Os) (started : os.Started) (H : Type) (enc : TypeId × Value → H) :
    ReturnsInHanded {} Try.checked os 8 .any (Rows.bytesJoinSpec.pre6 enc Try.prog Try.f8 Rows.bytesJoinRow.domain false) (Rows.bytesJoinSpec.post enc Try.prog Try.f8 false true false false) := by
  refine returnsInHanded_of_change (C := Try.checked) bytesJoinOwn started (by kernel_rfl) Try.func8
    (ChangeSpec.witness6 (enc := enc) (C := Try.checked) false ⟨#[], #[.slice none 0 0, .slice none 0 0], []⟩ 8 (by kernel_rfl) (by kernel_rfl) (by kernel_rfl) (by kernel_rfl)) ?_
  intro W base args ds gs before hval0 hW hcnd _
  have hval : ∀ (j : Nat) t v, Try.f8.params[j]? = some t → args[j]? = some v → Value.okWide Try.prog W .any base t v := hval0
  have hW' := hW
  obtain ⟨p, q, hA0, hV, rfl, hfz, hnd⟩ := hW
  obtain ⟨rfl, rfl⟩ := trodVars_none hV
  have r0 : DataW.TrodAll enc Try.prog W 0 (fun _ => true) true [34, 34] args.toList ds p := hA0
  obtain ⟨v0, vs0, d0, ds0, p0, q0, hargs, rfl, rfl, h0, r1⟩ := trodAll_cons r0
  obtain ⟨v1, vs1, d1, ds1, p1, q1, rfl, rfl, rfl, h1, r2⟩ := trodAll_cons r1
  obtain ⟨rfl, rfl, rfl⟩ := trodAll_nil r2
  obtain rfl : args = #[v0, v1] := by cases args; simp_all
  obtain ⟨A_a, c_a, a, rfl, hc_a, hm_a, hi_a, hg_a⟩ := arg_slice (K := KBs) Try.underlying34 (by kernel_rfl) (by decide) (opens_slice Try.underlying30 (by kernel_rfl) (by decide) (opens_u8 Try.underlying5)) (hval 0 34 v0 rfl rfl) h0
  obtain ⟨A_b, c_b, b, rfl, hc_b, hm_b, hi_b, hg_b⟩ := arg_slice (K := KBs) Try.underlying34 (by kernel_rfl) (by decide) (opens_slice Try.underlying30 (by kernel_rfl) (by decide) (opens_u8 Try.underlying5)) (hval 1 34 v1 rfl rfl) h1
  refine (join_spec hi_a hi_b hm_a hm_b).mono fun v W1 ⟨he, hg⟩ => ?_
  subst he
  exact post_law hW' rfl rfl (by kernel_rfl) (by decide +kernel) rfl Try.underlying4 hg
theorem bytesJoinOver : Rows.bytesJoinRow.holds Try.pinned (OpenSpec.ofChange Rows.bytesJoinSpec) :=
  OpenClaim.holds_of_wide 8 Try.f8 rfl rfl rfl rfl rfl rfl rfl ⟨rfl, rfl, rfl, rfl, rfl⟩ rfl rfl rfl rfl rfl (by kernel_rfl) Try.func8 (by kernel_rfl)
    (of_decide_eq_true (by kernel_rfl)) (by unfold Func.isWrapper; first | (rw [if_pos (by decide +kernel)]; kernel_rfl) | (rw [if_neg (by decide +kernel)]; exact ⟨rfl, rfl⟩))
    (fun os started H enc _ => bytesJoinLifted os started H enc)
theorem bytesJoin_holds : Rows.BytesJoinSaid := bytesJoinOver
#print axioms bytesJoin_holds
end Go.Proofs.Ytbpcfkahnhlahaa
