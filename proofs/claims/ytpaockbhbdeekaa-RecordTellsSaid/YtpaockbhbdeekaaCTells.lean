/- 'Rows.RecordTellsSaid': cardindex/cardindexlaw03.RecordTells answers true and changes nothing: for any rows, flags and bytes all calls answer as the document defines; what is handed in stays (at most 250 values of at most 300 bytes, 300 flags, 3000 bytes). -/
import Derived.Test.YtpaockbhbdeekaaRows
import Derived.Test.YtpaockbhbdeekaaF10
import Derived.Test.YtpaockbhbdeekaaROpen
import Derived.Test.YtpaockbhbdeekaaSxOpen
set_option linter.unusedVariables false
namespace Go.Proofs.Ytpaockbhbdeekaa
open Go Go.Sx Go.ChangeShapes Go.WideShapes Go.ChangeAt Go.RowKit R1
theorem recordTellsOwn : ownKnob Try.prog.godebug = none := by kernel_rfl
set_option maxRecDepth 100000 in
theorem recordTellsLifted (os : Os) (started : os.Started) (H : Type) (enc : TypeId × Value → H) :
    ReturnsInHanded {} Try.checked os 7 .any (Rows.recordTellsSpec.pre6 enc Try.prog Try.f7 Rows.recordTellsRow.domain false) (Rows.recordTellsSpec.post enc Try.prog Try.f7 false true false false) := by
  refine returnsInHanded_of_change (C := Try.checked) recordTellsOwn started (by kernel_rfl) Try.func7
    (ChangeSpec.witness6 (enc := enc) (C := Try.checked) false ⟨#[], #[.slice none 0 0, .slice none 0 0, .slice none 0 0], []⟩ 8 (by kernel_rfl) (by kernel_rfl) (by kernel_rfl) (by kernel_rfl)) ?_
  intro W base args ds gs before hval0 hW hcnd _
  have hval : ∀ (j : Nat) t v, Try.f7.params[j]? = some t → args[j]? = some v → Value.okWide Try.prog W .any base t v := hval0
  have hW' := hW
  obtain ⟨p, q, hA0, hV, rfl, hfz, hnd⟩ := hW
  obtain ⟨rfl, rfl⟩ := trodVars_none hV
  have r0 : DataW.TrodAll enc Try.prog W 0 (fun _ => true) true [22, 23, 27] args.toList ds p := hA0
  obtain ⟨v0, vs0, d0, ds0, p0, q0, hargs, rfl, rfl, h0, r1⟩ := trodAll_cons r0
  obtain ⟨v1, vs1, d1, ds1, p1, q1, rfl, rfl, rfl, h1, r2⟩ := trodAll_cons r1
  obtain ⟨v2, vs2, d2, ds2, p2, q2, rfl, rfl, rfl, h2, r3⟩ := trodAll_cons r2
  obtain ⟨rfl, rfl, rfl⟩ := trodAll_nil r3
  obtain rfl : args = #[v0, v1, v2] := by cases args; simp_all
  obtain ⟨A_a, c_a, a, rfl, hc_a, hm_a, hi_a, hg_a⟩ := arg_slice (K := KV) Try.underlying22 (by kernel_rfl) (by decide) opens_V (hval 0 22 v0 rfl rfl) h0
  obtain ⟨A_l, c_l, l, rfl, hc_l, hm_l, hi_l, hg_l⟩ := arg_slice (K := Kd.bool) Try.underlying23 (by kernel_rfl) (by decide) opens_flag (hval 1 23 v1 rfl rfl) h1
  obtain ⟨A_b, c_b, b, rfl, hc_b, hm_b, hi_b, hg_b⟩ := arg_slice (K := KB) Try.underlying27 (by kernel_rfl) (by decide) (opens_u8 Try.underlying5) (hval 2 27 v2 rfl rfl) h2
  refine (RecordTells_holds hi_a hi_l hi_b hm_a hm_l hm_b hc_b hg_a).mono fun v W1 ⟨he, hg⟩ => ?_
  subst he
  exact post_law hW' rfl rfl (by kernel_rfl) (by decide +kernel) rfl Try.underlying4 hg
theorem recordTellsOver : Rows.recordTellsRow.holds Try.pinned (OpenSpec.ofChange Rows.recordTellsSpec) :=
  OpenClaim.holds_of_wide 7 Try.f7 rfl rfl rfl rfl rfl rfl rfl ⟨rfl, rfl, rfl, rfl, rfl⟩ rfl rfl rfl rfl rfl (by kernel_rfl) Try.func7 (by kernel_rfl)
    (of_decide_eq_true (by kernel_rfl)) (by unfold Func.isWrapper; first | (rw [if_pos (by decide +kernel)]; kernel_rfl) | (rw [if_neg (by decide +kernel)]; exact ⟨rfl, rfl⟩))
    (fun os started H enc _ => recordTellsLifted os started H enc)
theorem recordTells_holds : Rows.RecordTellsSaid := recordTellsOver
#print axioms recordTells_holds
end Go.Proofs.Ytpaockbhbdeekaa
