/- 'Rows.SorterOrderSaid': cardindex/cardindexlaw07.SorterOrder answers true and changes nothing: what comes out is what was added, each once, in order; those of one key stay in theirs (any keys of two columns, up to 120 rows of texts of at most 100 bytes, any flags). -/
import Derived.Test.YtakmlaliglmnmaaRows
import Derived.Test.YtakmlaliglmnmaaS15
import Derived.Test.YtakmlaliglmnmaaSOpen
import Derived.Test.YtakmlaliglmnmaaSxOpen
set_option linter.unusedVariables false
namespace Go.Proofs.Ytakmlaliglmnmaa
open Go Go.Sx Go.ChangeShapes Go.WideShapes Go.ChangeAt Go.RowKit R1 S1
theorem sorterOrderOwn : ownKnob Try.prog.godebug = none := by kernel_rfl
set_option maxRecDepth 100000 in
theorem sorterOrderLifted (os : Os) (started : os.Started) (H : Type) (enc : TypeId × Value → H) :
    ReturnsInHanded {} Try.checked os 7 .any (Rows.sorterOrderSpec.pre6 enc Try.prog Try.f7 Rows.sorterOrderRow.domain false) (Rows.sorterOrderSpec.post enc Try.prog Try.f7 false true false false) := by
  refine returnsInHanded_of_change (C := Try.checked) sorterOrderOwn started (by kernel_rfl) Try.func7
    (ChangeSpec.witness6 (enc := enc) (C := Try.checked) false ⟨#[], #[.slice none 0 0, .agg #[.bool false, .bool false]], []⟩ 8 (by kernel_rfl) (by kernel_rfl) (by kernel_rfl) (by kernel_rfl)) ?_
  intro W base args ds gs before hval0 hW hcnd _
  have hval : ∀ (j : Nat) t v, Try.f7.params[j]? = some t → args[j]? = some v → Value.okWide Try.prog W .any base t v := hval0
  have hW' := hW
  obtain ⟨p, q, hA0, hV, rfl, hfz, hnd⟩ := hW
  obtain ⟨rfl, rfl⟩ := trodVars_none hV
  have r0 : DataW.TrodAll enc Try.prog W 0 (fun _ => true) true [22, 23] args.toList ds p := hA0
  obtain ⟨v0, vs0, d0, ds0, p0, q0, hargs, rfl, rfl, h0, r1⟩ := trodAll_cons r0
  obtain ⟨v1, vs1, d1, ds1, p1, q1, rfl, rfl, rfl, h1, r2⟩ := trodAll_cons r1
  obtain ⟨rfl, rfl, rfl⟩ := trodAll_nil r2
  obtain rfl : args = #[v0, v1] := by cases args; simp_all
  obtain ⟨A_keys, c_keys, keys, rfl, hc_keys, hm_keys, hi_keys, hg_keys⟩ := arg_slice (K := KP) Try.underlying22 (by kernel_rfl) (by decide) opens_P (hval 0 22 v0 rfl rfl) h0
  obtain ⟨desc0, desc1, rfl⟩ := arg_flags2 Try.underlying23 Try.underlying4 (by kernel_rfl) (by kernel_rfl) (hval 1 23 v1 rfl rfl) h1
  refine (SorterOrder_holds hi_keys hm_keys hg_keys desc0 desc1).mono fun v W1 ⟨he, hg⟩ => ?_
  subst he
  exact post_law hW' rfl rfl (by kernel_rfl) (by decide +kernel) rfl Try.underlying4 hg
theorem sorterOrderOver : Rows.sorterOrderRow.holds Try.pinned (OpenSpec.ofChange Rows.sorterOrderSpec) :=
  OpenClaim.holds_of_wide 7 Try.f7 rfl rfl rfl rfl rfl rfl rfl ⟨rfl, rfl, rfl, rfl, rfl⟩ rfl rfl rfl rfl rfl (by kernel_rfl) Try.func7 (by kernel_rfl)
    (of_decide_eq_true (by kernel_rfl)) (by unfold Func.isWrapper; first | (rw [if_pos (by decide +kernel)]; kernel_rfl) | (rw [if_neg (by decide +kernel)]; exact ⟨rfl, rfl⟩))
    (fun os started H enc _ => sorterOrderLifted os started H enc)
theorem sorterOrder_holds : Rows.SorterOrderSaid := sorterOrderOver
#print axioms sorterOrder_holds
end Go.Proofs.Ytakmlaliglmnmaa
