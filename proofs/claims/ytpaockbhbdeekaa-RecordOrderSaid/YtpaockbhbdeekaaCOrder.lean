/- 'Rows.RecordOrderSaid': cardindex/cardindexlaw03.RecordOrder answers true and changes nothing: two keys compare, byte by byte, as their rows do (any two right rows of up to 20 columns, any flags). -/
import Derived.Test.YtpaockbhbdeekaaRows
import Derived.Test.YtpaockbhbdeekaaR7
import Derived.Test.YtpaockbhbdeekaaROpen
import Derived.Test.YtpaockbhbdeekaaSxOpen
set_option linter.unusedVariables false
namespace Go.Proofs.Ytpaockbhbdeekaa
open Go Go.Sx Go.ChangeShapes Go.WideShapes Go.ChangeAt Go.RowKit R1
theorem recordOrderOwn : ownKnob Try.prog.godebug = none := by kernel_rfl
set_option maxRecDepth 100000 in
theorem recordOrderLifted (os : Os) (started : os.Started) (H : Type) (enc : TypeId × Value → H) :
    ReturnsInHanded {} Try.checked os 6 .any (Rows.recordOrderSpec.pre6 enc Try.prog Try.f6 Rows.recordOrderRow.domain false) (Rows.recordOrderSpec.post enc Try.prog Try.f6 false true false false) := by
  refine returnsInHanded_of_change (C := Try.checked) recordOrderOwn started (by kernel_rfl) Try.func6
    (ChangeSpec.witness6 (enc := enc) (C := Try.checked) false ⟨#[], #[.slice none 0 0, .slice none 0 0, .slice none 0 0], []⟩ 8 (by kernel_rfl) (by kernel_rfl) (by kernel_rfl) (by kernel_rfl)) ?_
  intro W base args ds gs before hval0 hW hcnd _
  have hval : ∀ (j : Nat) t v, Try.f6.params[j]? = some t → args[j]? = some v → Value.okWide Try.prog W .any base t v := hval0
  have hW' := hW
  obtain ⟨p, q, hA0, hV, rfl, hfz, hnd⟩ := hW
  obtain ⟨rfl, rfl⟩ := trodVars_none hV
  have r0 : DataW.TrodAll enc Try.prog W 0 (fun _ => true) true [22, 22, 23] args.toList ds p := hA0
  obtain ⟨v0, vs0, d0, ds0, p0, q0, hargs, rfl, rfl, h0, r1⟩ := trodAll_cons r0
  obtain ⟨v1, vs1, d1, ds1, p1, q1, rfl, rfl, rfl, h1, r2⟩ := trodAll_cons r1
  obtain ⟨v2, vs2, d2, ds2, p2, q2, rfl, rfl, rfl, h2, r3⟩ := trodAll_cons r2
  obtain ⟨rfl, rfl, rfl⟩ := trodAll_nil r3
  obtain rfl : args = #[v0, v1, v2] := by cases args; simp_all
  obtain ⟨A_a, c_a, a, rfl, hc_a, hm_a, hi_a, hg_a⟩ := arg_slice (K := KV) Try.underlying22 (by kernel_rfl) (by decide) opens_V (hval 0 22 v0 rfl rfl) h0
  obtain ⟨A_b, c_b, b, rfl, hc_b, hm_b, hi_b, hg_b⟩ := arg_slice (K := KV) Try.underlying22 (by kernel_rfl) (by decide) opens_V (hval 1 22 v1 rfl rfl) h1
  obtain ⟨A_l, c_l, l, rfl, hc_l, hm_l, hi_l, hg_l⟩ := arg_slice (K := Kd.bool) Try.underlying23 (by kernel_rfl) (by decide) opens_flag (hval 2 23 v2 rfl rfl) h2
  refine (RecordOrder_holds hi_a hi_b hi_l hm_a hm_b hc_a hc_b hm_l hg_a hg_b).mono fun v W1 ⟨he, hg⟩ => ?_
  subst he
  exact post_law hW' rfl rfl (by kernel_rfl) (by decide +kernel) rfl Try.underlying4 hg
theorem recordOrderOver : Rows.recordOrderRow.holds Try.pinned (OpenSpec.ofChange Rows.recordOrderSpec) :=
  OpenClaim.holds_of_wide 6 Try.f6 rfl rfl rfl rfl rfl rfl rfl ⟨rfl, rfl, rfl, rfl, rfl⟩ rfl rfl rfl rfl rfl (by kernel_rfl) Try.func6 (by kernel_rfl)
    (of_decide_eq_true (by kernel_rfl)) (by unfold Func.isWrapper; first | (rw [if_pos (by decide +kernel)]; kernel_rfl) | (rw [if_neg (by decide +kernel)]; exact ⟨rfl, rfl⟩))
    (fun os started H enc _ => recordOrderLifted os started H enc)
theorem recordOrder_holds : Rows.RecordOrderSaid := recordOrderOver
#print axioms recordOrder_holds
end Go.Proofs.Ytpaockbhbdeekaa
