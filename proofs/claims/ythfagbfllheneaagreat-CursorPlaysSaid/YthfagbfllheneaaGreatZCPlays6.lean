/- 'Rows.CursorPlaysSaid': cardindex/cardindexlaw06.CursorPlays answers true and changes nothing: for any keys (the first 30) and any script of calls upon three cursors and their store (the first 80). -/
import Derived.Test.YthfagbfllheneaaGreatRows
import Derived.Test.YthfagbfllheneaaGreatZCPlays6P7
import Derived.Test.YthfagbfllheneaaGreatZCPlays6P2
set_option linter.unusedVariables false
namespace Go.Proofs.YthfagbfllheneaaGreat
open Go Go.Sx Go.ChangeShapes Go.WideShapes Go.ChangeAt Go.RowKit
theorem cursorPlaysOwn : ownKnob Tryz.prog.godebug = none := by kernel_rfl
set_option maxRecDepth 100000 in
theorem cursorPlaysLifted (os : Os) (started : os.Started) (H : Type) (enc : TypeId × Value → H) :
    ReturnsInHanded {} Tryz.checked os 4 .any (Rows.cursorPlaysSpec.pre6 enc Tryz.prog Tryz.f4 Rows.cursorPlaysRow.domain false) (Rows.cursorPlaysSpec.post enc Tryz.prog Tryz.f4 false true false false) := by
  refine returnsInHanded_of_change (C := Tryz.checked) cursorPlaysOwn started (by kernel_rfl) Tryz.func4
    (ChangeSpec.witness6 (enc := enc) (C := Tryz.checked) false ⟨#[], #[.slice none 0 0, .slice none 0 0], []⟩ 8 (by kernel_rfl) (by kernel_rfl) (by kernel_rfl) (by kernel_rfl)) ?_
  intro W base args ds gs before hval0 hW hcnd _
  have hval : ∀ (j : Nat) t v, Tryz.f4.params[j]? = some t → args[j]? = some v → Value.okWide Tryz.prog W .any base t v := hval0
  have hW' := hW
  obtain ⟨p, q, hA0, hV, rfl, hfz, hnd⟩ := hW
  obtain ⟨rfl, rfl⟩ := trodVars_none hV
  have r0 : DataW.TrodAll enc Tryz.prog W 0 (fun _ => true) true [46, 47] args.toList ds p := hA0
  obtain ⟨v0, vs0, d0, ds0, p0, q0, hargs, rfl, rfl, h0, r1⟩ := trodAll_cons r0
  obtain ⟨v1, vs1, d1, ds1, p1, q1, rfl, rfl, rfl, h1, r2⟩ := trodAll_cons r1
  obtain ⟨rfl, rfl, rfl⟩ := trodAll_nil r2
  obtain rfl : args = #[v0, v1] := by cases args; simp_all
  obtain ⟨A_keys, c_keys, keys, rfl, hc_keys, hm_keys, hi_keys, hg_keys⟩ := arg_slice (K := KBs) Tryz.underlying46 (by kernel_rfl) (by decide) opens_Bs6 (hval 0 46 v0 rfl rfl) h0
  obtain ⟨A_ops, c_ops, ops, rfl, hc_ops, hm_ops, hi_ops, hg_ops⟩ := arg_slice (K := KOp6) Tryz.underlying47 (by kernel_rfl) (by decide) opens_Op6 (hval 1 47 v1 rfl rfl) h1
  refine (CursorPlays_spec hi_keys hi_ops).mono fun v W1 ⟨he, hg⟩ => ?_
  subst he
  exact post_law hW' rfl rfl (by kernel_rfl) (by decide +kernel) rfl Tryz.underlying4 hg
theorem cursorPlaysOver : Rows.cursorPlaysRow.holds Tryz.pinned (OpenSpec.ofChange Rows.cursorPlaysSpec) :=
  OpenClaim.holds_of_wide 4 Tryz.f4 rfl rfl rfl rfl rfl rfl rfl ⟨rfl, rfl, rfl, rfl, rfl⟩ rfl rfl rfl rfl rfl (by kernel_rfl) Tryz.func4 (by kernel_rfl)
    (of_decide_eq_true (by kernel_rfl)) (by unfold Func.isWrapper; first | (rw [if_pos (by decide +kernel)]; kernel_rfl) | (rw [if_neg (by decide +kernel)]; exact ⟨rfl, rfl⟩))
    (fun os started H enc _ => cursorPlaysLifted os started H enc)
theorem cursorPlays_holds : Rows.CursorPlaysSaid := cursorPlaysOver
#print axioms cursorPlays_holds
end Go.Proofs.YthfagbfllheneaaGreat
