/- 'Rows.FlowMadeCardSaid': cardindex/cardindexlaw16.FlowMade answers true and changes nothing: loops of cursors within one another, of any depth up to the document's, are loops; two that cross, and one that is too deep, are none. (Two listed package-level variables, strings.asciiSpace and unicode.White_Space, read as the program's text lays them: tied.) -/
import Derived.Test.YtabfhckjinejfaaDoorRows
import Derived.Test.YtabfhckjinejfaaDoorCards
import Derived.Test.YtabfhckjinejfaaDoorTie
import Derived.Test.YtabfhckjinejfaaDoorZCMadeP5
import Derived.LaidMore
import Derived.Stop.Joined
import Derived.Stop.LaidErr
import Derived.Lib.LaidTab
import Derived.SevenTiedAt
set_option linter.unusedVariables false
namespace Go.Proofs.YtabfhckjinejfaaDoor
open Go Go.Sx Go.ChangeShapes Go.WideShapes Go.ChangeAt Go.WideMaps Go.WideElems Go.RowKit K15
theorem flowMadeOwn : ownKnob Tryd.prog.godebug = none := by kernel_rfl
theorem flowMadeDoor (os : Os) (args : Array Value) : laidMetH Tryd.prog Rows.flowMadeRow.laid ((World.doorLaid Tryd.prog 33 os).forCall (fun _ _ => 0) ⟨#[], args, []⟩).memory :=
  laidMetH_of_parts3 (fuel := 8) (laidMet_of_run' 8 (by kernel_rfl) (by kernel_rfl)) (by kernel_rfl) (by kernel_rfl)
theorem flowMadeDatum : (Rows.laid_strings_asciiSpace : DataW Unit) = Lib.tabData .u8 Lib.asciiSpaceTab := by kernel_rfl
set_option maxRecDepth 100000 in
theorem flowMadeTab {W : World} (h : laidMetH Tryd.prog Rows.flowMadeRow.laid W) : Tab W := by
  rw [MakeChecks.laidMetH_plain _ _ _ (by kernel_rfl)] at h
  have h2 : laidMet Tryd.prog (("strings.asciiSpace", Rows.laid_strings_asciiSpace) :: []) W := laidMet.tail h
  rw [flowMadeDatum] at h2
  exact Lib.tabIs_of_head (g := 0) (t := 143) (e := 5) (n := 256) (by kernel_rfl) (by kernel_rfl) (by kernel_rfl) (by kernel_rfl) (by kernel_rfl) (by kernel_rfl) h2
set_option maxRecDepth 100000 in
theorem flowMadeLifted (os : Os) (started : os.Started) (H : Type) (enc : TypeId × Value → H) :
    ReturnsInHanded {} Tryd.checked os 4 .any (fun w args => (Rows.flowMadeSpec.pre enc Tryd.prog Tryd.f4 [] false w args ∧ laidMetH Tryd.prog Rows.flowMadeRow.laid w) ∧ sizedMet enc Tryd.prog Tryd.f4 (OpenSpec.ofChange Rows.flowMadeSpec) false w args) (Rows.flowMadeSpec.post enc Tryd.prog Tryd.f4 false true false false) := by
  refine returnsInHanded_of_change_and (C := Tryd.checked) (X := fun w _ => laidMetH Tryd.prog Rows.flowMadeRow.laid w) (fun _ _ _ hh h => h.of_heap hh) flowMadeOwn started (by kernel_rfl) Tryd.func4
    (ChangeSpec.witness_shaped (enc := enc) (C := Tryd.checked) (os := os) (X := fun w _ => laidMetH Tryd.prog Rows.flowMadeRow.laid w) false (World.doorLaid Tryd.prog 33 os) #[.int .u8 0, .bool false] 8 rfl (World.shaped_of_RefB (by kernel_rfl) (by kernel_rfl)) (by kernel_rfl) (by kernel_rfl) (by kernel_rfl) (flowMadeDoor os _)) ?_
  intro W base args ds gs before hval0 hW _ _ hL _
  have hT := flowMadeTab hL
  have hval : ∀ (j : Nat) t v, Tryd.f4.params[j]? = some t → args[j]? = some v → Value.okWide Tryd.prog W .any base t v := hval0
  have hW' := hW
  obtain ⟨p, q, hA0, hV, rfl, hfz, hnd⟩ := hW
  obtain ⟨rfl, rfl⟩ := trodVars_none hV
  have r0 : DataW.TrodAll enc Tryd.prog W 0 (fun _ => true) true [5, 4] args.toList ds p := hA0
  obtain ⟨v0, vs0, d0, ds0, p0, q0, hargs, rfl, rfl, h0, r1⟩ := trodAll_cons r0
  obtain ⟨v1, vs1, d1, ds1, p1, q1, rfl, rfl, rfl, h1, r2⟩ := trodAll_cons r1
  obtain ⟨rfl, rfl, rfl⟩ := trodAll_nil r2
  obtain rfl : args = #[v0, v1] := by cases args; simp_all
  obtain ⟨x0, rfl, rfl, rfl, w0⟩ := open_int Tryd.underlying5 (hval 0 5 v0 rfl rfl) h0
  obtain ⟨n, rfl, h_n⟩ := u8_nat w0
  obtain ⟨crossed, rfl, rfl, rfl⟩ := open_bool Tryd.underlying4 (hval 1 4 v1 rfl rfl) h1
  refine (FlowMade_holds hT n h_n crossed).mono fun v W1 ⟨he, hg⟩ => ?_
  subst he
  exact post_law hW' rfl rfl (by kernel_rfl) (by decide +kernel) rfl Tryd.underlying4 hg
theorem flowMadeOver : Rows.flowMadeRow.holds Tryd.pinned (OpenSpec.ofChange Rows.flowMadeSpec) :=
  OpenClaim.holds_of_wide 4 Tryd.f4 rfl rfl rfl rfl rfl rfl rfl ⟨rfl, rfl, rfl, rfl, rfl⟩ rfl rfl rfl rfl rfl (by kernel_rfl) Tryd.func4 (by kernel_rfl)
    (of_decide_eq_true (by kernel_rfl)) (by unfold Func.isWrapper; first | (rw [if_pos (by decide +kernel)]; kernel_rfl) | (rw [if_neg (by decide +kernel)]; exact ⟨rfl, rfl⟩))
    (fun os started H enc _ => flowMadeLifted os started H enc)
theorem flowMade_holds : Rows.FlowMadeCardSaid :=
  Claim7.holds_tied_plain_at .later [] [.listed, .data] true (true, "6c86dc25ae065ddd556130eedf3b4c5f354a598fbbd267b376460cf1cf58c4be") false
    flowMadeOver (fun _ h => by cases h) (by kernel_rfl) (fun _ h => by cases h) flowMade_row_tie rfl ⟨rfl, rfl⟩ (by kernel_rfl) rfl
    (fun g fn hf hfn => by
      obtain rfl : g = 4 := Option.some.inj ((show Tryd.prog.funcNamed "cardindex/cardindexlaw16.FlowMade" = some 4 by kernel_rfl).symm.trans hf) |>.symm
      obtain rfl : fn = Tryd.f4 := (Option.some.inj (Tryd.func4.symm.trans hfn)).symm
      exact ⟨by kernel_rfl, fun j t ht => by
        have hm : t ∈ [5, 4] := by simpa using Array.mem_of_getElem? (show (#[5, 4] : Array TypeId)[j]? = some t from ht)
        have hall : ([5, 4].all fun u => !Tryd.prog.wantsStandIn u) = true := by kernel_rfl
        exact (show Tryd.prog.wantsStandIn t = false by simpa using List.all_eq_true.1 hall t hm)⟩)
    (by kernel_rfl)
#print axioms flowMade_holds
end Go.Proofs.YtabfhckjinejfaaDoor
