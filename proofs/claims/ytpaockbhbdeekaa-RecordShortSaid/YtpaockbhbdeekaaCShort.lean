/- 'Rows.RecordShortSaid': cardindex/cardindexlaw03.RecordShort answers true and changes nothing: how much room a row takes (any right row of up to 150 columns, of at most 100 bytes). -/
import Derived.Test.YtpaockbhbdeekaaRows
import Derived.Test.YtpaockbhbdeekaaR6
import Derived.Test.YtpaockbhbdeekaaROpen
import Derived.Test.YtpaockbhbdeekaaSxOpen
set_option linter.unusedVariables false
namespace Go.Proofs.Ytpaockbhbdeekaa
open Go Go.Sx Go.ChangeShapes Go.WideShapes Go.ChangeAt Go.RowKit R1
theorem recordShortOwn : ownKnob Try.prog.godebug = none := by kernel_rfl
set_option maxRecDepth 100000 in
theorem recordShortLifted (os : Os) (started : os.Started) (H : Type) (enc : TypeId × Value → H) :
    ReturnsInHanded {} Try.checked os 5 .any (Rows.recordShortSpec.pre6 enc Try.prog Try.f5 Rows.recordShortRow.domain false) (Rows.recordShortSpec.post enc Try.prog Try.f5 false true false false) := by
  refine returnsInHanded_of_change (C := Try.checked) recordShortOwn started (by kernel_rfl) Try.func5
    (ChangeSpec.witness6 (enc := enc) (C := Try.checked) false ⟨#[], #[.slice none 0 0], []⟩ 8 (by kernel_rfl) (by kernel_rfl) (by kernel_rfl) (by kernel_rfl)) ?_
  intro W base args ds gs before hval0 hW hcnd _
  have hval : ∀ (j : Nat) t v, Try.f5.params[j]? = some t → args[j]? = some v → Value.okWide Try.prog W .any base t v := hval0
  have hW' := hW
  obtain ⟨p, q, hA0, hV, rfl, hfz, hnd⟩ := hW
  obtain ⟨rfl, rfl⟩ := trodVars_none hV
  have r0 : DataW.TrodAll enc Try.prog W 0 (fun _ => true) true [22] args.toList ds p := hA0
  obtain ⟨v0, vs0, d0, ds0, p0, q0, hargs, rfl, rfl, h0, r1⟩ := trodAll_cons r0
  obtain ⟨rfl, rfl, rfl⟩ := trodAll_nil r1
  obtain rfl : args = #[v0] := by cases args; simp_all
  obtain ⟨A_a, c_a, a, rfl, hc_a, hm_a, hi_a, hg_a⟩ := arg_slice (K := KV) Try.underlying22 (by kernel_rfl) (by decide) opens_V (hval 0 22 v0 rfl rfl) h0
  refine (RecordShort_holds hi_a hm_a hg_a).mono fun v W1 ⟨he, hg⟩ => ?_
  subst he
  exact post_law hW' rfl rfl (by kernel_rfl) (by decide +kernel) rfl Try.underlying4 hg
theorem recordShortOver : Rows.recordShortRow.holds Try.pinned (OpenSpec.ofChange Rows.recordShortSpec) :=
  OpenClaim.holds_of_wide 5 Try.f5 rfl rfl rfl rfl rfl rfl rfl ⟨rfl, rfl, rfl, rfl, rfl⟩ rfl rfl rfl rfl rfl (by kernel_rfl) Try.func5 (by kernel_rfl)
    (of_decide_eq_true (by kernel_rfl)) (by unfold Func.isWrapper; first | (rw [if_pos (by decide +kernel)]; kernel_rfl) | (rw [if_neg (by decide +kernel)]; exact ⟨rfl, rfl⟩))
    (fun os started H enc _ => recordShortLifted os started H enc)
theorem recordShort_holds : Rows.RecordShortSaid := recordShortOver
#print axioms recordShort_holds
end Go.Proofs.Ytpaockbhbdeekaa
