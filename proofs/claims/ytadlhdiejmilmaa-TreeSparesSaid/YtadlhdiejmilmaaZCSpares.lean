/- 'Rows.TreeSparesSaid': cardindex/cardindexlaw04.TreeSpares answers true and changes nothing: for every key and value. -/
import Derived.Test.YtadlhdiejmilmaaRows
import Derived.Test.YtadlhdiejmilmaaZCSparesP7
import Derived.Test.YtadlhdiejmilmaaZCSparesP2
set_option linter.unusedVariables false
namespace Go.Proofs.Ytadlhdiejmilmaa
open Go Go.Sx Go.ChangeShapes Go.WideShapes Go.ChangeAt Go.RowKit
theorem treeSparesOwn : ownKnob Try.prog.godebug = none := by kernel_rfl
set_option maxRecDepth 100000 in
theorem treeSparesLifted (os : Os) (started : os.Started) (H : Type) (enc : TypeId × Value → H) :
    ReturnsInHanded {} Try.checked os 4 .any (Rows.treeSparesSpec.pre6 enc Try.prog Try.f4 Rows.treeSparesRow.domain false) (Rows.treeSparesSpec.post enc Try.prog Try.f4 false true false false) := by
  refine returnsInHanded_of_change (C := Try.checked) treeSparesOwn started (by kernel_rfl) Try.func4
    (ChangeSpec.witness6 (enc := enc) (C := Try.checked) false ⟨#[], #[.slice none 0 0, .slice none 0 0], []⟩ 8 (by kernel_rfl) (by kernel_rfl) (by kernel_rfl) (by kernel_rfl)) ?_
  intro W base args ds gs before hval0 hW hcnd _
  have hval : ∀ (j : Nat) t v, Try.f4.params[j]? = some t → args[j]? = some v → Value.okWide Try.prog W .any base t v := hval0
  have hW' := hW
  obtain ⟨p, q, hA0, hV, rfl, hfz, hnd⟩ := hW
  obtain ⟨rfl, rfl⟩ := trodVars_none hV
  have r0 : DataW.TrodAll enc Try.prog W 0 (fun _ => true) true [36, 36] args.toList ds p := hA0
  obtain ⟨v0, vs0, d0, ds0, p0, q0, hargs, rfl, rfl, h0, r1⟩ := trodAll_cons r0
  obtain ⟨v1, vs1, d1, ds1, p1, q1, rfl, rfl, rfl, h1, r2⟩ := trodAll_cons r1
  obtain ⟨rfl, rfl, rfl⟩ := trodAll_nil r2
  obtain rfl : args = #[v0, v1] := by cases args; simp_all
  obtain ⟨A_k, c_k, k, rfl, hc_k, hm_k, hi_k, hg_k⟩ := arg_slice (K := KB) Try.underlying36 (by kernel_rfl) (by decide) (opens_u8 Try.underlying5) (hval 0 36 v0 rfl rfl) h0
  obtain ⟨A_v, c_v, v, rfl, hc_v, hm_v, hi_v, hg_v⟩ := arg_slice (K := KB) Try.underlying36 (by kernel_rfl) (by decide) (opens_u8 Try.underlying5) (hval 1 36 v1 rfl rfl) h1
  refine (TreeSpares_spec hi_k hi_v).mono fun v W1 ⟨he, hg⟩ => ?_
  subst he
  exact post_law hW' rfl rfl (by kernel_rfl) (by decide +kernel) rfl Try.underlying4 hg
theorem treeSparesOver : Rows.treeSparesRow.holds Try.pinned (OpenSpec.ofChange Rows.treeSparesSpec) :=
  OpenClaim.holds_of_wide 4 Try.f4 rfl rfl rfl rfl rfl rfl rfl ⟨rfl, rfl, rfl, rfl, rfl⟩ rfl rfl rfl rfl rfl (by kernel_rfl) Try.func4 (by kernel_rfl)
    (of_decide_eq_true (by kernel_rfl)) (by unfold Func.isWrapper; first | (rw [if_pos (by decide +kernel)]; kernel_rfl) | (rw [if_neg (by decide +kernel)]; exact ⟨rfl, rfl⟩))
    (fun os started H enc _ => treeSparesLifted os started H enc)
theorem treeSpares_holds : Rows.TreeSparesSaid := treeSparesOver
#print axioms treeSpares_holds
end Go.Proofs.Ytadlhdiejmilmaa
