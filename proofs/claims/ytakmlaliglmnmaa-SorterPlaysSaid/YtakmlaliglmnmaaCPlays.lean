/- 'Rows.SorterPlaysSaid': cardindex/cardindexlaw07.SorterPlays answers true and changes nothing: through any script each answer is as the document defines; what is handed in stays (the first 100 calls; keys and rows of at most 10 values of at most 100 bytes). -/
import Derived.Test.YtakmlaliglmnmaaRows
import Derived.Test.YtakmlaliglmnmaaPOpen
import Derived.Test.YtakmlaliglmnmaaSxOpen
set_option linter.unusedVariables false
namespace Go.Proofs.Ytakmlaliglmnmaa
open Go Go.Sx Go.ChangeShapes Go.WideShapes Go.ChangeAt Go.RowKit R1 S1
theorem sorterPlaysOwn : ownKnob Try.prog.godebug = none := by kernel_rfl
set_option maxRecDepth 100000 in
theorem sorterPlaysLifted (os : Os) (started : os.Started) (H : Type) (enc : TypeId × Value → H) :
    ReturnsInHanded {} Try.checked os 4 .any (Rows.sorterPlaysSpec.pre6 enc Try.prog Try.f4 Rows.sorterPlaysRow.domain false) (Rows.sorterPlaysSpec.post enc Try.prog Try.f4 false true false false) := by
  refine returnsInHanded_of_change (C := Try.checked) sorterPlaysOwn started (by kernel_rfl) Try.func4
    (ChangeSpec.witness6 (enc := enc) (C := Try.checked) false ⟨#[], #[.slice none 0 0, .bool false, .slice none 0 0], []⟩ 8 (by kernel_rfl) (by kernel_rfl) (by kernel_rfl) (by kernel_rfl)) ?_
  intro W base args ds gs before hval0 hW hcnd _
  have hval : ∀ (j : Nat) t v, Try.f4.params[j]? = some t → args[j]? = some v → Value.okWide Try.prog W .any base t v := hval0
  have hW' := hW
  obtain ⟨p, q, hA0, hV, rfl, hfz, hnd⟩ := hW
  obtain ⟨rfl, rfl⟩ := trodVars_none hV
  have r0 : DataW.TrodAll enc Try.prog W 0 (fun _ => true) true [36, 4, 37] args.toList ds p := hA0
  obtain ⟨v0, vs0, d0, ds0, p0, q0, hargs, rfl, rfl, h0, r1⟩ := trodAll_cons r0
  obtain ⟨v1, vs1, d1, ds1, p1, q1, rfl, rfl, rfl, h1, r2⟩ := trodAll_cons r1
  obtain ⟨v2, vs2, d2, ds2, p2, q2, rfl, rfl, rfl, h2, r3⟩ := trodAll_cons r2
  obtain ⟨rfl, rfl, rfl⟩ := trodAll_nil r3
  obtain rfl : args = #[v0, v1, v2] := by cases args; simp_all
  obtain ⟨A_ds, c_ds, ds, rfl, hc_ds, hm_ds, hi_ds, hg_ds⟩ := arg_slice (K := Kd.bool) Try.underlying36 (by kernel_rfl) (by decide) opens_flag (hval 0 36 v0 rfl rfl) h0
  obtain ⟨dist, rfl, rfl, rfl⟩ := open_bool Try.underlying4 (hval 1 4 v1 rfl rfl) h1
  obtain ⟨A_ops, c_ops, ops, rfl, hc_ops, hm_ops, hi_ops, hg_ops⟩ := arg_slice (K := KOp) Try.underlying37 (by kernel_rfl) (by decide) opens_Op (hval 2 37 v2 rfl rfl) h2
  refine (SorterPlays_holds hi_ds hi_ops hm_ds hm_ops hg_ops dist).mono fun v W1 ⟨he, hg⟩ => ?_
  subst he
  exact post_law hW' rfl rfl (by kernel_rfl) (by decide +kernel) rfl Try.underlying4 hg
theorem sorterPlaysOver : Rows.sorterPlaysRow.holds Try.pinned (OpenSpec.ofChange Rows.sorterPlaysSpec) :=
  OpenClaim.holds_of_wide 4 Try.f4 rfl rfl rfl rfl rfl rfl rfl ⟨rfl, rfl, rfl, rfl, rfl⟩ rfl rfl rfl rfl rfl (by kernel_rfl) Try.func4 (by kernel_rfl)
    (of_decide_eq_true (by kernel_rfl)) (by unfold Func.isWrapper; first | (rw [if_pos (by decide +kernel)]; kernel_rfl) | (rw [if_neg (by decide +kernel)]; exact ⟨rfl, rfl⟩))
    (fun os started H enc _ => sorterPlaysLifted os started H enc)
theorem sorterPlays_holds : Rows.SorterPlaysSaid := sorterPlaysOver
#print axioms sorterPlays_holds
end Go.Proofs.Ytakmlaliglmnmaa
