/- 'Rows.SorterNoneSaid': cardindex/cardindexlaw07.SorterNone answers true and changes nothing: a sorter that New did not make answers nothing and ErrNil (any keys, any rows). -/
import Derived.Test.YtakmlaliglmnmaaRows
import Derived.Test.YtakmlaliglmnmaaS11
import Derived.Test.YtakmlaliglmnmaaSOpen
import Derived.Test.YtakmlaliglmnmaaSxOpen
set_option linter.unusedVariables false
namespace Go.Proofs.Ytakmlaliglmnmaa
open Go Go.Sx Go.ChangeShapes Go.WideShapes Go.ChangeAt Go.RowKit R1 S1
theorem sorterNoneOwn : ownKnob Try.prog.godebug = none := by kernel_rfl
set_option maxRecDepth 100000 in
theorem sorterNoneLifted (os : Os) (started : os.Started) (H : Type) (enc : TypeId × Value → H) :
    ReturnsInHanded {} Try.checked os 5 .any (Rows.sorterNoneSpec.pre6 enc Try.prog Try.f5 Rows.sorterNoneRow.domain false) (Rows.sorterNoneSpec.post enc Try.prog Try.f5 false true false false) := by
  refine returnsInHanded_of_change (C := Try.checked) sorterNoneOwn started (by kernel_rfl) Try.func5
    (ChangeSpec.witness6 (enc := enc) (C := Try.checked) false ⟨#[], #[.slice none 0 0, .slice none 0 0], []⟩ 8 (by kernel_rfl) (by kernel_rfl) (by kernel_rfl) (by kernel_rfl)) ?_
  intro W base args ds gs before hval0 hW hcnd _
  have hval : ∀ (j : Nat) t v, Try.f5.params[j]? = some t → args[j]? = some v → Value.okWide Try.prog W .any base t v := hval0
  have hW' := hW
  obtain ⟨p, q, hA0, hV, rfl, hfz, hnd⟩ := hW
  obtain ⟨rfl, rfl⟩ := trodVars_none hV
  have r0 : DataW.TrodAll enc Try.prog W 0 (fun _ => true) true [32, 32] args.toList ds p := hA0
  obtain ⟨v0, vs0, d0, ds0, p0, q0, hargs, rfl, rfl, h0, r1⟩ := trodAll_cons r0
  obtain ⟨v1, vs1, d1, ds1, p1, q1, rfl, rfl, rfl, h1, r2⟩ := trodAll_cons r1
  obtain ⟨rfl, rfl, rfl⟩ := trodAll_nil r2
  obtain rfl : args = #[v0, v1] := by cases args; simp_all
  obtain ⟨A_key, c_key, key, rfl, hc_key, hm_key, hi_key, hg_key⟩ := arg_slice (K := KV) Try.underlying32 (by kernel_rfl) (by decide) opens_V (hval 0 32 v0 rfl rfl) h0
  obtain ⟨A_row, c_row, row, rfl, hc_row, hm_row, hi_row, hg_row⟩ := arg_slice (K := KV) Try.underlying32 (by kernel_rfl) (by decide) opens_V (hval 1 32 v1 rfl rfl) h1
  refine (SorterNone_holds).mono fun v W1 ⟨he, hg⟩ => ?_
  subst he
  exact post_law hW' rfl rfl (by kernel_rfl) (by decide +kernel) rfl Try.underlying4 hg
theorem sorterNoneOver : Rows.sorterNoneRow.holds Try.pinned (OpenSpec.ofChange Rows.sorterNoneSpec) :=
  OpenClaim.holds_of_wide 5 Try.f5 rfl rfl rfl rfl rfl rfl rfl ⟨rfl, rfl, rfl, rfl, rfl⟩ rfl rfl rfl rfl rfl (by kernel_rfl) Try.func5 (by kernel_rfl)
    (of_decide_eq_true (by kernel_rfl)) (by unfold Func.isWrapper; first | (rw [if_pos (by decide +kernel)]; kernel_rfl) | (rw [if_neg (by decide +kernel)]; exact ⟨rfl, rfl⟩))
    (fun os started H enc _ => sorterNoneLifted os started H enc)
theorem sorterNone_holds : Rows.SorterNoneSaid := sorterNoneOver
#print axioms sorterNone_holds
end Go.Proofs.Ytakmlaliglmnmaa
