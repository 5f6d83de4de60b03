/- 'Rows.FlowDepthCardSaid': cardindex/cardindexlaw16.FlowDepth answers true and changes nothing: of each place of a program whose loops may be there are as many loops that it is within as its innermost one says, and one; each of them is within the one ahead. (Two listed package-level variables, strings.asciiSpace and unicode.White_Space, read as the program's text lays them: tied.) -/
import Derived.Test.YtabfhckjinejfaaDoorRows
import Derived.Test.YtabfhckjinejfaaDoorCards
import Derived.Test.YtabfhckjinejfaaDoorTie
import Derived.Test.YtabfhckjinejfaaDoorZCDepthP5
import Derived.LaidMore
import Derived.Stop.Joined
import Derived.Stop.LaidErr
import Derived.Lib.LaidTab
import Derived.SevenTiedAt
set_option linter.unusedVariables false
namespace Go.Proofs.YtabfhckjinejfaaDoor
open Go Go.Sx Go.ChangeShapes Go.WideShapes Go.ChangeAt Go.WideMaps Go.WideElems Go.RowKit K15
theorem flowDepthOwn : ownKnob Tryd.prog.godebug = none := by kernel_rfl
theorem flowDepthDoor (os : Os) (args : Array Value) : laidMetH Tryd.prog Rows.flowDepthRow.laid ((World.doorLaid Tryd.prog 33 os).forCall (fun _ _ => 0) ⟨#[], args, []⟩).memory :=
  laidMetH_of_parts3 (fuel := 8) (laidMet_of_run' 8 (by kernel_rfl) (by kernel_rfl)) (by kernel_rfl) (by kernel_rfl)
theorem flowDepthDatum : (Rows.laid_strings_asciiSpace : DataW Unit) = Lib.tabData .u8 Lib.asciiSpaceTab := by kernel_rfl
set_option maxRecDepth 100000 in
theorem flowDepthTab {W : World} (h : laidMetH Tryd.prog Rows.flowDepthRow.laid W) : Tab W := by
  rw [MakeChecks.laidMetH_plain _ _ _ (by kernel_rfl)] at h
  have h2 : laidMet Tryd.prog (("strings.asciiSpace", Rows.laid_strings_asciiSpace) :: []) W := laidMet.tail h
  rw [flowDepthDatum] at h2
  exact Lib.tabIs_of_head (g := 0) (t := 143) (e := 5) (n := 256) (by kernel_rfl) (by kernel_rfl) (by kernel_rfl) (by kernel_rfl) (by kernel_rfl) (by kernel_rfl) h2
set_option maxRecDepth 100000 in
theorem flowDepthLifted (os : Os) (started : os.Started) (H : Type) (enc : TypeId × Value → H) :
    ReturnsInHanded {} Tryd.checked os 3 .any (fun w args => (Rows.flowDepthSpec.pre enc Tryd.prog Tryd.f3 [] false w args ∧ laidMetH Tryd.prog Rows.flowDepthRow.laid w) ∧ sizedMet enc Tryd.prog Tryd.f3 (OpenSpec.ofChange Rows.flowDepthSpec) false w args) (Rows.flowDepthSpec.post enc Tryd.prog Tryd.f3 false true false false) := by
  refine returnsInHanded_of_change_and (C := Tryd.checked) (X := fun w _ => laidMetH Tryd.prog Rows.flowDepthRow.laid w) (fun _ _ _ hh h => h.of_heap hh) flowDepthOwn started (by kernel_rfl) Tryd.func3
    (ChangeSpec.witness_shaped (enc := enc) (C := Tryd.checked) (os := os) (X := fun w _ => laidMetH Tryd.prog Rows.flowDepthRow.laid w) false (World.doorLaid Tryd.prog 33 os) #[.agg #[.int .i64 0, .int .i64 0, .int .i64 0, .slice none 0 0, .slice none 0 0, .slice none 0 0, .slice none 0 0, .slice none 0 0, .slice none 0 0]] 8 rfl (World.shaped_of_RefB (by kernel_rfl) (by kernel_rfl)) (by kernel_rfl) (by kernel_rfl) (by kernel_rfl) (flowDepthDoor os _)) ?_
  intro W base args ds gs before hval0 hW _ _ hL _
  have hT := flowDepthTab hL
  have hval : ∀ (j : Nat) t v, Tryd.f3.params[j]? = some t → args[j]? = some v → Value.okWide Tryd.prog W .any base t v := hval0
  have hW' := hW
  obtain ⟨p, q, hA0, hV, rfl, hfz, hnd⟩ := hW
  obtain ⟨rfl, rfl⟩ := trodVars_none hV
  have r0 : DataW.TrodAll enc Tryd.prog W 0 (fun _ => true) true [29] args.toList ds p := hA0
  obtain ⟨v0, vs0, d0, ds0, p0, q0, hargs, rfl, rfl, h0, r1⟩ := trodAll_cons r0
  obtain ⟨rfl, rfl, rfl⟩ := trodAll_nil r1
  obtain rfl : args = #[v0] := by cases args; simp_all
  obtain ⟨p, a_p, rfl, h_p, g_p⟩ := arg_prog (hval 0 29 v0 rfl rfl) h0
  refine (FlowDepth_holds h_p hT).mono fun v W1 ⟨he, hg⟩ => ?_
  subst he
  exact post_law hW' rfl rfl (by kernel_rfl) (by decide +kernel) rfl Tryd.underlying4 hg
theorem flowDepthOver : Rows.flowDepthRow.holds Tryd.pinned (OpenSpec.ofChange Rows.flowDepthSpec) :=
  OpenClaim.holds_of_wide 3 Tryd.f3 rfl rfl rfl rfl rfl rfl rfl ⟨rfl, rfl, rfl, rfl, rfl⟩ rfl rfl rfl rfl rfl (by kernel_rfl) Tryd.func3 (by kernel_rfl)
    (of_decide_eq_true (by kernel_rfl)) (by unfold Func.isWrapper; first | (rw [if_pos (by decide +kernel)]; kernel_rfl) | (rw [if_neg (by decide +kernel)]; exact ⟨rfl, rfl⟩))
    (fun os started H enc _ => flowDepthLifted os started H enc)
theorem flowDepth_holds : Rows.FlowDepthCardSaid :=
  Claim7.holds_tied_plain_at .later [] [.listed, .data] true (true, "6c86dc25ae065ddd556130eedf3b4c5f354a598fbbd267b376460cf1cf58c4be") false
    flowDepthOver (fun _ h => by cases h) (by kernel_rfl) (fun _ h => by cases h) flowDepth_row_tie rfl ⟨rfl, rfl⟩ (by kernel_rfl) rfl
    (fun g fn hf hfn => by
      obtain rfl : g = 3 := Option.some.inj ((show Tryd.prog.funcNamed "cardindex/cardindexlaw16.FlowDepth" = some 3 by kernel_rfl).symm.trans hf) |>.symm
      obtain rfl : fn = Tryd.f3 := (Option.some.inj (Tryd.func3.symm.trans hfn)).symm
      exact ⟨by kernel_rfl, fun j t ht => by
        have hm : t ∈ [29] := by simpa using Array.mem_of_getElem? (show (#[29] : Array TypeId)[j]? = some t from ht)
        have hall : ([29].all fun u => !Tryd.prog.wantsStandIn u) = true := by kernel_rfl
        exact (show Tryd.prog.wantsStandIn t = false by simpa using List.all_eq_true.1 hall t hm)⟩)
    (by kernel_rfl)
#print axioms flowDepth_holds
end Go.Proofs.YtabfhckjinejfaaDoor
