/- 'Rows.BytesLimitsSaid': cardindex/cardindexlaw01.BytesLimits answers true and changes nothing: for every list, limits and place. -/
import Derived.Test.YtbpcfkahnhlahaaRows
import Derived.Test.YtbpcfkahnhlahaaBLimits
import Derived.Test.YtbpcfkahnhlahaaSxOpen
set_option linter.unusedVariables false
namespace Go.Proofs.Ytbpcfkahnhlahaa
open Go Go.Sx Go.ChangeShapes Go.WideShapes Go.ChangeAt Go.RowKit
theorem bytesLimitsOwn : ownKnob Try.prog.godebug = none := by kernel_rfl
set_option maxRecDepth 100000 in
theorem bytesLimitsLifted (os : Os) (started : os.Started) (H : Type) (enc : TypeId × Value → H) :
    ReturnsInHanded {} Try.checked os 9 .any (Rows.bytesLimitsSpec.pre6 enc Try.prog Try.f9 Rows.bytesLimitsRow.domain false) (Rows.bytesLimitsSpec.post enc Try.prog Try.f9 false true false false) := by
  refine returnsInHanded_of_change (C := Try.checked) bytesLimitsOwn started (by kernel_rfl) Try.func9
    (ChangeSpec.witness6 (enc := enc) (C := Try.checked) false ⟨#[], #[.slice none 0 0, .int .i64 0, .int .i64 0, .int .u16 0], []⟩ 8 (by kernel_rfl) (by kernel_rfl) (by kernel_rfl) (by kernel_rfl)) ?_
  intro W base args ds gs before hval0 hW hcnd _
  have hval : ∀ (j : Nat) t v, Try.f9.params[j]? = some t → args[j]? = some v → Value.okWide Try.prog W .any base t v := hval0
  have hW' := hW
  obtain ⟨p, q, hA0, hV, rfl, hfz, hnd⟩ := hW
  obtain ⟨rfl, rfl⟩ := trodVars_none hV
  have r0 : DataW.TrodAll enc Try.prog W 0 (fun _ => true) true [34, 3, 3, 49] args.toList ds p := hA0
  obtain ⟨v0, vs0, d0, ds0, p0, q0, hargs, rfl, rfl, h0, r1⟩ := trodAll_cons r0
  obtain ⟨v1, vs1, d1, ds1, p1, q1, rfl, rfl, rfl, h1, r2⟩ := trodAll_cons r1
  obtain ⟨v2, vs2, d2, ds2, p2, q2, rfl, rfl, rfl, h2, r3⟩ := trodAll_cons r2
  obtain ⟨v3, vs3, d3, ds3, p3, q3, rfl, rfl, rfl, h3, r4⟩ := trodAll_cons r3
  obtain ⟨rfl, rfl, rfl⟩ := trodAll_nil r4
  obtain rfl : args = #[v0, v1, v2, v3] := by cases args; simp_all
  obtain ⟨A_l, c_l, l, rfl, hc_l, hm_l, hi_l, hg_l⟩ := arg_slice (K := KBs) Try.underlying34 (by kernel_rfl) (by decide) (opens_slice Try.underlying30 (by kernel_rfl) (by decide) (opens_u8 Try.underlying5)) (hval 0 34 v0 rfl rfl) h0
  obtain ⟨many, rfl, rfl, rfl, w1⟩ := open_int Try.underlying3 (hval 1 3 v1 rfl rfl) h1
  have h_many := i64_range w1
  obtain ⟨most, rfl, rfl, rfl, w2⟩ := open_int Try.underlying3 (hval 2 3 v2 rfl rfl) h2
  have h_most := i64_range w2
  obtain ⟨x3, rfl, rfl, rfl, w3⟩ := open_int Try.underlying49 (hval 3 49 v3 rfl rfl) h3
  obtain ⟨cut, rfl, h_cut⟩ := u16_nat w3
  refine (limits_spec hi_l hm_l many most h_many h_most cut h_cut).mono fun v W1 ⟨he, hg⟩ => ?_
  subst he
  exact post_law hW' rfl rfl (by kernel_rfl) (by decide +kernel) rfl Try.underlying4 hg
theorem bytesLimitsOver : Rows.bytesLimitsRow.holds Try.pinned (OpenSpec.ofChange Rows.bytesLimitsSpec) :=
  OpenClaim.holds_of_wide 9 Try.f9 rfl rfl rfl rfl rfl rfl rfl ⟨rfl, rfl, rfl, rfl, rfl⟩ rfl rfl rfl rfl rfl (by kernel_rfl) Try.func9 (by kernel_rfl)
    (of_decide_eq_true (by kernel_rfl)) (by unfold Func.isWrapper; first | (rw [if_pos (by decide +kernel)]; kernel_rfl) | (rw [if_neg (by decide +kernel)]; exact ⟨rfl, rfl⟩))
    (fun os started H enc _ => bytesLimitsLifted os started H enc)
theorem bytesLimits_holds : Rows.BytesLimitsSaid := bytesLimitsOver
#print axioms bytesLimits_holds
end Go.Proofs.Ytbpcfkahnhlahaa
