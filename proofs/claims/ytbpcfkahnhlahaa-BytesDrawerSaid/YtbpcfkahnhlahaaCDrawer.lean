/- 'Rows.BytesDrawerSaid': cardindex/cardindexlaw01.BytesDrawer answers true and changes nothing: for every numbers, lists and bytes. -/
import Derived.Test.YtbpcfkahnhlahaaRows
import Derived.Test.YtbpcfkahnhlahaaBDrawer
import Derived.Test.YtbpcfkahnhlahaaSxOpen
set_option linter.unusedVariables false
namespace Go.Proofs.Ytbpcfkahnhlahaa
open Go Go.Sx Go.ChangeShapes Go.WideShapes Go.ChangeAt Go.RowKit
theorem bytesDrawerOwn : ownKnob Try.prog.godebug = none := by kernel_rfl
set_option maxRecDepth 100000 in
theorem bytesDrawerLifted (os : Os) (started : os.Started) (H : Type) (enc : TypeId × Value → H) :
    ReturnsInHanded {} Try.checked os 5 .any (Rows.bytesDrawerSpec.pre6 enc Try.prog Try.f5 Rows.bytesDrawerRow.domain false) (Rows.bytesDrawerSpec.post enc Try.prog Try.f5 false true false false) := by
  refine returnsInHanded_of_change (C := Try.checked) bytesDrawerOwn started (by kernel_rfl) Try.func5
    (ChangeSpec.witness6 (enc := enc) (C := Try.checked) false ⟨#[], #[.slice none 0 0, .slice none 0 0, .slice none 0 0, .slice none 0 0], []⟩ 8 (by kernel_rfl) (by kernel_rfl) (by kernel_rfl) (by kernel_rfl)) ?_
  intro W base args ds gs before hval0 hW hcnd _
  have hval : ∀ (j : Nat) t v, Try.f5.params[j]? = some t → args[j]? = some v → Value.okWide Try.prog W .any base t v := hval0
  have hW' := hW
  obtain ⟨p, q, hA0, hV, rfl, hfz, hnd⟩ := hW
  obtain ⟨rfl, rfl⟩ := trodVars_none hV
  have r0 : DataW.TrodAll enc Try.prog W 0 (fun _ => true) true [45, 46, 30, 30] args.toList ds p := hA0
  obtain ⟨v0, vs0, d0, ds0, p0, q0, hargs, rfl, rfl, h0, r1⟩ := trodAll_cons r0
  obtain ⟨v1, vs1, d1, ds1, p1, q1, rfl, rfl, rfl, h1, r2⟩ := trodAll_cons r1
  obtain ⟨v2, vs2, d2, ds2, p2, q2, rfl, rfl, rfl, h2, r3⟩ := trodAll_cons r2
  obtain ⟨v3, vs3, d3, ds3, p3, q3, rfl, rfl, rfl, h3, r4⟩ := trodAll_cons r3
  obtain ⟨rfl, rfl, rfl⟩ := trodAll_nil r4
  obtain rfl : args = #[v0, v1, v2, v3] := by cases args; simp_all
  obtain ⟨A_ns, c_ns, ns, rfl, hc_ns, hm_ns, hi_ns, hg_ns⟩ := arg_slice (K := KN) Try.underlying45 (by kernel_rfl) (by decide) (opens_u64 Try.underlying23) (hval 0 45 v0 rfl rfl) h0
  obtain ⟨A_ls, c_ls, ls, rfl, hc_ls, hm_ls, hi_ls, hg_ls⟩ := arg_slice (K := K2) Try.underlying46 (by kernel_rfl) (by decide) (opens_slice Try.underlying34 (by kernel_rfl) (by decide) (opens_slice Try.underlying30 (by kernel_rfl) (by decide) (opens_u8 Try.underlying5))) (hval 1 46 v1 rfl rfl) h1
  obtain ⟨A_a, c_a, a, rfl, hc_a, hm_a, hi_a, hg_a⟩ := arg_slice (K := KB) Try.underlying30 (by kernel_rfl) (by decide) (opens_u8 Try.underlying5) (hval 2 30 v2 rfl rfl) h2
  obtain ⟨A_b, c_b, b, rfl, hc_b, hm_b, hi_b, hg_b⟩ := arg_slice (K := KB) Try.underlying30 (by kernel_rfl) (by decide) (opens_u8 Try.underlying5) (hval 3 30 v3 rfl rfl) h3
  refine (drawer_spec hi_ns hi_ls hi_a hi_b hm_ls).mono fun v W1 ⟨he, hg⟩ => ?_
  subst he
  exact post_law hW' rfl rfl (by kernel_rfl) (by decide +kernel) rfl Try.underlying4 hg
theorem bytesDrawerOver : Rows.bytesDrawerRow.holds Try.pinned (OpenSpec.ofChange Rows.bytesDrawerSpec) :=
  OpenClaim.holds_of_wide 5 Try.f5 rfl rfl rfl rfl rfl rfl rfl ⟨rfl, rfl, rfl, rfl, rfl⟩ rfl rfl rfl rfl rfl (by kernel_rfl) Try.func5 (by kernel_rfl)
    (of_decide_eq_true (by kernel_rfl)) (by unfold Func.isWrapper; first | (rw [if_pos (by decide +kernel)]; kernel_rfl) | (rw [if_neg (by decide +kernel)]; exact ⟨rfl, rfl⟩))
    (fun os started H enc _ => bytesDrawerLifted os started H enc)
theorem bytesDrawer_holds : Rows.BytesDrawerSaid := bytesDrawerOver
#print axioms bytesDrawer_holds
end Go.Proofs.Ytbpcfkahnhlahaa
