/- 'Rows.BytesTellsSaid': cardindex/cardindexlaw01.BytesTells answers true and changes nothing: of any numbers, bytes, places and limits each call tells what the document defines, and writes over nothing that it was handed (at most 600 bytes; lists of at most 20 strings of at most 100 bytes). -/
import Derived.Test.YtbpcfkahnhlahaaRows
import Derived.Test.YtbpcfkahnhlahaaBTells
import Derived.Test.YtbpcfkahnhlahaaSxOpen
set_option linter.unusedVariables false
namespace Go.Proofs.Ytbpcfkahnhlahaa
open Go Go.Sx Go.ChangeShapes Go.WideShapes Go.ChangeAt Go.RowKit
theorem bytesTellsOwn : ownKnob Try.prog.godebug = none := by kernel_rfl
set_option maxRecDepth 100000 in
theorem bytesTellsLifted (os : Os) (started : os.Started) (H : Type) (enc : TypeId × Value → H) :
    ReturnsInHanded {} Try.checked os 4 .any (Rows.bytesTellsSpec.pre6 enc Try.prog Try.f4 Rows.bytesTellsRow.domain false) (Rows.bytesTellsSpec.post enc Try.prog Try.f4 false true false false) := by
  refine returnsInHanded_of_change (C := Try.checked) bytesTellsOwn started (by kernel_rfl) Try.func4
    (ChangeSpec.witness6 (enc := enc) (C := Try.checked) false ⟨#[], #[.int .u64 0, .slice none 0 0, .int .i64 0, .int .i64 0, .int .i64 0, .slice none 0 0], []⟩ 8 (by kernel_rfl) (by kernel_rfl) (by kernel_rfl) (by kernel_rfl)) ?_
  intro W base args ds gs before hval0 hW hcnd _
  have hval : ∀ (j : Nat) t v, Try.f4.params[j]? = some t → args[j]? = some v → Value.okWide Try.prog W .any base t v := hval0
  have hW' := hW
  obtain ⟨p, q, hA0, hV, rfl, hfz, hnd⟩ := hW
  obtain ⟨rfl, rfl⟩ := trodVars_none hV
  have r0 : DataW.TrodAll enc Try.prog W 0 (fun _ => true) true [23, 30, 3, 3, 3, 34] args.toList ds p := hA0
  obtain ⟨v0, vs0, d0, ds0, p0, q0, hargs, rfl, rfl, h0, r1⟩ := trodAll_cons r0
  obtain ⟨v1, vs1, d1, ds1, p1, q1, rfl, rfl, rfl, h1, r2⟩ := trodAll_cons r1
  obtain ⟨v2, vs2, d2, ds2, p2, q2, rfl, rfl, rfl, h2, r3⟩ := trodAll_cons r2
  obtain ⟨v3, vs3, d3, ds3, p3, q3, rfl, rfl, rfl, h3, r4⟩ := trodAll_cons r3
  obtain ⟨v4, vs4, d4, ds4, p4, q4, rfl, rfl, rfl, h4, r5⟩ := trodAll_cons r4
  obtain ⟨v5, vs5, d5, ds5, p5, q5, rfl, rfl, rfl, h5, r6⟩ := trodAll_cons r5
  obtain ⟨rfl, rfl, rfl⟩ := trodAll_nil r6
  obtain rfl : args = #[v0, v1, v2, v3, v4, v5] := by cases args; simp_all
  obtain ⟨x0, rfl, rfl, rfl, w0⟩ := open_int Try.underlying23 (hval 0 23 v0 rfl rfl) h0
  obtain ⟨n, rfl, h_n⟩ := u64_nat w0
  obtain ⟨A_b, c_b, b, rfl, hc_b, hm_b, hi_b, hg_b⟩ := arg_slice (K := KB) Try.underlying30 (by kernel_rfl) (by decide) (opens_u8 Try.underlying5) (hval 1 30 v1 rfl rfl) h1
  obtain ⟨at_, rfl, rfl, rfl, w2⟩ := open_int Try.underlying3 (hval 2 3 v2 rfl rfl) h2
  have h_at_ := i64_range w2
  obtain ⟨many, rfl, rfl, rfl, w3⟩ := open_int Try.underlying3 (hval 3 3 v3 rfl rfl) h3
  have h_many := i64_range w3
  obtain ⟨most, rfl, rfl, rfl, w4⟩ := open_int Try.underlying3 (hval 4 3 v4 rfl rfl) h4
  have h_most := i64_range w4
  obtain ⟨A_l, c_l, l, rfl, hc_l, hm_l, hi_l, hg_l⟩ := arg_slice (K := KBs) Try.underlying34 (by kernel_rfl) (by decide) (opens_slice Try.underlying30 (by kernel_rfl) (by decide) (opens_u8 Try.underlying5)) (hval 5 34 v5 rfl rfl) h5
  refine (tells_spec h_n at_ many most h_many h_most hi_b hc_b hi_l).mono fun v W1 ⟨he, hg⟩ => ?_
  subst he
  exact post_law hW' rfl rfl (by kernel_rfl) (by decide +kernel) rfl Try.underlying4 hg
theorem bytesTellsOver : Rows.bytesTellsRow.holds Try.pinned (OpenSpec.ofChange Rows.bytesTellsSpec) :=
  OpenClaim.holds_of_wide 4 Try.f4 rfl rfl rfl rfl rfl rfl rfl ⟨rfl, rfl, rfl, rfl, rfl⟩ rfl rfl rfl rfl rfl (by kernel_rfl) Try.func4 (by kernel_rfl)
    (of_decide_eq_true (by kernel_rfl)) (by unfold Func.isWrapper; first | (rw [if_pos (by decide +kernel)]; kernel_rfl) | (rw [if_neg (by decide +kernel)]; exact ⟨rfl, rfl⟩))
    (fun os started H enc _ => bytesTellsLifted os started H enc)
theorem bytesTells_holds : Rows.BytesTellsSaid := bytesTellsOver
#print axioms bytesTells_holds
end Go.Proofs.Ytbpcfkahnhlahaa
