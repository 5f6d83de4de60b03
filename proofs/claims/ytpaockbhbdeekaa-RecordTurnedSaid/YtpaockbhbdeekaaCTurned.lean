/- 'Rows.RecordTurnedSaid': cardindex/cardindexlaw03.RecordTurned answers true and changes nothing: with all flags the other way round each bit of a key is (any right row of up to 20 columns, any flags). -/
import Derived.Test.YtpaockbhbdeekaaRows
import Derived.Test.YtpaockbhbdeekaaR6
import Derived.Test.YtpaockbhbdeekaaROpen
import Derived.Test.YtpaockbhbdeekaaSxOpen
set_option linter.unusedVariables false
namespace Go.Proofs.Ytpaockbhbdeekaa
open Go Go.Sx Go.ChangeShapes Go.WideShapes Go.ChangeAt Go.RowKit R1
theorem recordTurnedOwn : ownKnob Try.prog.godebug = none := by kernel_rfl
set_option maxRecDepth 100000 in
theorem recordTurnedLifted (os : Os) (started : os.Started) (H : Type) (enc : TypeId × Value → H) :
    ReturnsInHanded {} Try.checked os 4 .any (Rows.recordTurnedSpec.pre6 enc Try.prog Try.f4 Rows.recordTurnedRow.domain false) (Rows.recordTurnedSpec.post enc Try.prog Try.f4 false true false false) := by
  refine returnsInHanded_of_change (C := Try.checked) recordTurnedOwn started (by kernel_rfl) Try.func4
    (ChangeSpec.witness6 (enc := enc) (C := Try.checked) false ⟨#[], #[.slice none 0 0, .slice none 0 0], []⟩ 8 (by kernel_rfl) (by kernel_rfl) (by kernel_rfl) (by kernel_rfl)) ?_
  intro W base args ds gs before hval0 hW hcnd _
  have hval : ∀ (j : Nat) t v, Try.f4.params[j]? = some t → args[j]? = some v → Value.okWide Try.prog W .any base t v := hval0
  have hW' := hW
  obtain ⟨p, q, hA0, hV, rfl, hfz, hnd⟩ := hW
  obtain ⟨rfl, rfl⟩ := trodVars_none hV
  have r0 : DataW.TrodAll enc Try.prog W 0 (fun _ => true) true [22, 23] args.toList ds p := hA0
  obtain ⟨v0, vs0, d0, ds0, p0, q0, hargs, rfl, rfl, h0, r1⟩ := trodAll_cons r0
  obtain ⟨v1, vs1, d1, ds1, p1, q1, rfl, rfl, rfl, h1, r2⟩ := trodAll_cons r1
  obtain ⟨rfl, rfl, rfl⟩ := trodAll_nil r2
  obtain rfl : args = #[v0, v1] := by cases args; simp_all
  obtain ⟨A_a, c_a, a, rfl, hc_a, hm_a, hi_a, hg_a⟩ := arg_slice (K := KV) Try.underlying22 (by kernel_rfl) (by decide) opens_V (hval 0 22 v0 rfl rfl) h0
  obtain ⟨A_l, c_l, l, rfl, hc_l, hm_l, hi_l, hg_l⟩ := arg_slice (K := Kd.bool) Try.underlying23 (by kernel_rfl) (by decide) opens_flag (hval 1 23 v1 rfl rfl) h1
  refine (RecordTurned_holds hi_a hi_l hm_a hm_l hg_a).mono fun v W1 ⟨he, hg⟩ => ?_
  subst he
  exact post_law hW' rfl rfl (by kernel_rfl) (by decide +kernel) rfl Try.underlying4 hg
theorem recordTurnedOver : Rows.recordTurnedRow.holds Try.pinned (OpenSpec.ofChange Rows.recordTurnedSpec) :=
  OpenClaim.holds_of_wide 4 Try.f4 rfl rfl rfl rfl rfl rfl rfl ⟨rfl, rfl, rfl, rfl, rfl⟩ rfl rfl rfl rfl rfl (by kernel_rfl) Try.func4 (by kernel_rfl)
    (of_decide_eq_true (by kernel_rfl)) (by unfold Func.isWrapper; first | (rw [if_pos (by decide +kernel)]; kernel_rfl) | (rw [if_neg (by decide +kernel)]; exact ⟨rfl, rfl⟩))
    (fun os started H enc _ => recordTurnedLifted os started H enc)
theorem recordTurned_holds : Rows.RecordTurnedSaid := recordTurnedOver
#print axioms recordTurned_holds
end Go.Proofs.Ytpaockbhbdeekaa
