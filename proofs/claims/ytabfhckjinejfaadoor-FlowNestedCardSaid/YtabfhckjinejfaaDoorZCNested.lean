/- 'Rows.FlowNestedCardSaid': cardindex/cardindexlaw16.FlowNested answers true and changes nothing: loops are within one another, or apart; a place within one is come to by its begin, or from within it, alone; each begins and ends once. (Two listed package-level variables, strings.asciiSpace and unicode.White_Space, read as the program's text lays them: tied.) -/
import Derived.Test.YtabfhckjinejfaaDoorRows
import Derived.Test.YtabfhckjinejfaaDoorCards
import Derived.Test.YtabfhckjinejfaaDoorTie
import Derived.Test.YtabfhckjinejfaaDoorZCNestedP5
import Derived.LaidMore
import Derived.Stop.Joined
import Derived.Stop.LaidErr
import Derived.Lib.LaidTab
import Derived.SevenTiedAt
set_option linter.unusedVariables false
namespace Go.Proofs.YtabfhckjinejfaaDoor
open Go Go.Sx Go.ChangeShapes Go.WideShapes Go.ChangeAt Go.WideMaps Go.WideElems Go.RowKit K15
theorem flowNestedOwn : ownKnob Tryd.prog.godebug = none := by kernel_rfl
theorem flowNestedDoor (os : Os) (args : Array Value) : laidMetH Tryd.prog Rows.flowNestedRow.laid ((World.doorLaid Tryd.prog 33 os).forCall (fun _ _ => 0) ⟨#[], args, []⟩).memory :=
  laidMetH_of_parts3 (fuel := 8) (laidMet_of_run' 8 (by kernel_rfl) (by kernel_rfl)) (by kernel_rfl) (by kernel_rfl)
theorem flowNestedDatum : (Rows.laid_strings_asciiSpace : DataW Unit) = Lib.tabData .u8 Lib.asciiSpaceTab := by kernel_rfl
set_option maxRecDepth 100000 in
theorem flowNestedTab {W : World} (h : laidMetH Tryd.prog Rows.flowNestedRow.laid W) : Tab W := by
  rw [MakeChecks.laidMetH_plain _ _ _ (by kernel_rfl)] at h
  have h2 : laidMet Tryd.prog (("strings.asciiSpace", Rows.laid_strings_asciiSpace) :: []) W := laidMet.tail h
  rw [flowNestedDatum] at h2
  exact Lib.tabIs_of_head (g := 0) (t := 143) (e := 5) (n := 256) (by kernel_rfl) (by kernel_rfl) (by kernel_rfl) (by kernel_rfl) (by kernel_rfl) (by kernel_rfl) h2
set_option maxRecDepth 100000 in
theorem flowNestedLifted (os : Os) (started : os.Started) (H : Type) (enc : TypeId × Value → H) :
    ReturnsInHanded {} Tryd.checked os 5 .any (fun w args => (Rows.flowNestedSpec.pre enc Tryd.prog Tryd.f5 [] false w args ∧ laidMetH Tryd.prog Rows.flowNestedRow.laid w) ∧ sizedMet enc Tryd.prog Tryd.f5 (OpenSpec.ofChange Rows.flowNestedSpec) false w args) (Rows.flowNestedSpec.post enc Tryd.prog Tryd.f5 false true false false) := by
  refine returnsInHanded_of_change_and (C := Tryd.checked) (X := fun w _ => laidMetH Tryd.prog Rows.flowNestedRow.laid w) (fun _ _ _ hh h => h.of_heap hh) flowNestedOwn started (by kernel_rfl) Tryd.func5
    (ChangeSpec.witness_shaped (enc := enc) (C := Tryd.checked) (os := os) (X := fun w _ => laidMetH Tryd.prog Rows.flowNestedRow.laid w) false (World.doorLaid Tryd.prog 33 os) #[.agg #[.int .i64 0, .int .i64 0, .int .i64 0, .slice none 0 0, .slice none 0 0, .slice none 0 0, .slice none 0 0, .slice none 0 0, .slice none 0 0]] 8 rfl (World.shaped_of_RefB (by kernel_rfl) (by kernel_rfl)) (by kernel_rfl) (by kernel_rfl) (by kernel_rfl) (flowNestedDoor os _)) ?_
  intro W base args ds gs before hval0 hW _ _ hL _
  have hT := flowNestedTab hL
  have hval : ∀ (j : Nat) t v, Tryd.f5.params[j]? = some t → args[j]? = some v → Value.okWide Tryd.prog W .any base t v := hval0
  have hW' := hW
  obtain ⟨p, q, hA0, hV, rfl, hfz, hnd⟩ := hW
  obtain ⟨rfl, rfl⟩ := trodVars_none hV
  have r0 : DataW.TrodAll enc Tryd.prog W 0 (fun _ => true) true [29] args.toList ds p := hA0
  obtain ⟨v0, vs0, d0, ds0, p0, q0, hargs, rfl, rfl, h0, r1⟩ := trodAll_cons r0
  obtain ⟨rfl, rfl, rfl⟩ := trodAll_nil r1
  obtain rfl : args = #[v0] := by cases args; simp_all
  obtain ⟨p, a_p, rfl, h_p, g_p⟩ := arg_prog (hval 0 29 v0 rfl rfl) h0
  refine (FlowNested_holds h_p hT).mono fun v W1 ⟨he, hg⟩ => ?_
  subst he
  exact post_law hW' rfl rfl (by kernel_rfl) (by decide +kernel) rfl Tryd.underlying4 hg
theorem flowNestedOver : Rows.flowNestedRow.holds Tryd.pinned (OpenSpec.ofChange Rows.flowNestedSpec) :=
  OpenClaim.holds_of_wide 5 Tryd.f5 rfl rfl rfl rfl rfl rfl rfl ⟨rfl, rfl, rfl, rfl, rfl⟩ rfl rfl rfl rfl rfl (by kernel_rfl) Tryd.func5 (by kernel_rfl)
    (of_decide_eq_true (by kernel_rfl)) (by unfold Func.isWrapper; first | (rw [if_pos (by decide +kernel)]; kernel_rfl) | (rw [if_neg (by decide +kernel)]; exact ⟨rfl, rfl⟩))
    (fun os started H enc _ => flowNestedLifted os started H enc)
theorem flowNested_holds : Rows.FlowNestedCardSaid :=
  Claim7.holds_tied_plain_at .later [] [.listed, .data] true (true, "6c86dc25ae065ddd556130eedf3b4c5f354a598fbbd267b376460cf1cf58c4be") false
    flowNestedOver (fun _ h => by cases h) (by kernel_rfl) (fun _ h => by cases h) flowNested_row_tie rfl ⟨rfl, rfl⟩ (by kernel_rfl) rfl
    (fun g fn hf hfn => by
      obtain rfl : g = 5 := Option.some.inj ((show Tryd.prog.funcNamed "cardindex/cardindexlaw16.FlowNested" = some 5 by kernel_rfl).symm.trans hf) |>.symm
      obtain rfl : fn = Tryd.f5 := (Option.some.inj (Tryd.func5.symm.trans hfn)).symm
      exact ⟨by kernel_rfl, fun j t ht => by
        have hm : t ∈ [29] := by simpa using Array.mem_of_getElem? (show (#[29] : Array TypeId)[j]? = some t from ht)
        have hall : ([29].all fun u => !Tryd.prog.wantsStandIn u) = true := by kernel_rfl
        exact (show Tryd.prog.wantsStandIn t = false by simpa using List.all_eq_true.1 hall t hm)⟩)
    (by kernel_rfl)
#print axioms flowNested_holds
end Go.Proofs.YtabfhckjinejfaaDoor
