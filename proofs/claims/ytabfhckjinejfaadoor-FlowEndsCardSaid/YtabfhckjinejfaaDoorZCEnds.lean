/- 'Rows.FlowEndsCardSaid': cardindex/cardindexlaw16.FlowEnds answers true and changes nothing: by its jumps alone, each loop gone through once at most, any program comes to its end. (Two listed package-level variables, strings.asciiSpace and unicode.White_Space, read as the program's text lays them: tied.) -/
import Derived.Test.YtabfhckjinejfaaDoorRows
import Derived.Test.YtabfhckjinejfaaDoorCards
import Derived.Test.YtabfhckjinejfaaDoorTie
import Derived.Test.YtabfhckjinejfaaDoorZCEndsP5
import Derived.LaidMore
import Derived.Stop.Joined
import Derived.Stop.LaidErr
import Derived.Lib.LaidTab
import Derived.SevenTiedAt
set_option linter.unusedVariables false
namespace Go.Proofs.YtabfhckjinejfaaDoor
open Go Go.Sx Go.ChangeShapes Go.WideShapes Go.ChangeAt Go.WideMaps Go.WideElems Go.RowKit K15
theorem flowEndsOwn : ownKnob Tryd.prog.godebug = none := by kernel_rfl
theorem flowEndsDoor (os : Os) (args : Array Value) : laidMetH Tryd.prog Rows.flowEndsRow.laid ((World.doorLaid Tryd.prog 33 os).forCall (fun _ _ => 0) ⟨#[], args, []⟩).memory :=
  laidMetH_of_parts3 (fuel := 8) (laidMet_of_run' 8 (by kernel_rfl) (by kernel_rfl)) (by kernel_rfl) (by kernel_rfl)
theorem flowEndsDatum : (Rows.laid_strings_asciiSpace : DataW Unit) = Lib.tabData .u8 Lib.asciiSpaceTab := by kernel_rfl
set_option maxRecDepth 100000 in
theorem flowEndsTab {W : World} (h : laidMetH Tryd.prog Rows.flowEndsRow.laid W) : Tab W := by
  rw [MakeChecks.laidMetH_plain _ _ _ (by kernel_rfl)] at h
  have h2 : laidMet Tryd.prog (("strings.asciiSpace", Rows.laid_strings_asciiSpace) :: []) W := laidMet.tail h
  rw [flowEndsDatum] at h2
  exact Lib.tabIs_of_head (g := 0) (t := 143) (e := 5) (n := 256) (by kernel_rfl) (by kernel_rfl) (by kernel_rfl) (by kernel_rfl) (by kernel_rfl) (by kernel_rfl) h2
set_option maxRecDepth 100000 in
theorem flowEndsLifted (os : Os) (started : os.Started) (H : Type) (enc : TypeId × Value → H) :
    ReturnsInHanded {} Tryd.checked os 6 .any (fun w args => (Rows.flowEndsSpec.pre enc Tryd.prog Tryd.f6 [] false w args ∧ laidMetH Tryd.prog Rows.flowEndsRow.laid w) ∧ sizedMet enc Tryd.prog Tryd.f6 (OpenSpec.ofChange Rows.flowEndsSpec) false w args) (Rows.flowEndsSpec.post enc Tryd.prog Tryd.f6 false true false false) := by
  refine returnsInHanded_of_change_and (C := Tryd.checked) (X := fun w _ => laidMetH Tryd.prog Rows.flowEndsRow.laid w) (fun _ _ _ hh h => h.of_heap hh) flowEndsOwn started (by kernel_rfl) Tryd.func6
    (ChangeSpec.witness_shaped (enc := enc) (C := Tryd.checked) (os := os) (X := fun w _ => laidMetH Tryd.prog Rows.flowEndsRow.laid w) false (World.doorLaid Tryd.prog 33 os) #[.agg #[.int .i64 0, .int .i64 0, .int .i64 0, .slice none 0 0, .slice none 0 0, .slice none 0 0, .slice none 0 0, .slice none 0 0, .slice none 0 0], .int .i64 0, .slice none 0 0] 8 rfl (World.shaped_of_RefB (by kernel_rfl) (by kernel_rfl)) (by kernel_rfl) (by kernel_rfl) (by kernel_rfl) (flowEndsDoor os _)) ?_
  intro W base args ds gs before hval0 hW _ _ hL _
  have hT := flowEndsTab hL
  have hval : ∀ (j : Nat) t v, Tryd.f6.params[j]? = some t → args[j]? = some v → Value.okWide Tryd.prog W .any base t v := hval0
  have hW' := hW
  obtain ⟨p, q, hA0, hV, rfl, hfz, hnd⟩ := hW
  obtain ⟨rfl, rfl⟩ := trodVars_none hV
  have r0 : DataW.TrodAll enc Tryd.prog W 0 (fun _ => true) true [29, 3, 50] args.toList ds p := hA0
  obtain ⟨v0, vs0, d0, ds0, p0, q0, hargs, rfl, rfl, h0, r1⟩ := trodAll_cons r0
  obtain ⟨v1, vs1, d1, ds1, p1, q1, rfl, rfl, rfl, h1, r2⟩ := trodAll_cons r1
  obtain ⟨v2, vs2, d2, ds2, p2, q2, rfl, rfl, rfl, h2, r3⟩ := trodAll_cons r2
  obtain ⟨rfl, rfl, rfl⟩ := trodAll_nil r3
  obtain rfl : args = #[v0, v1, v2] := by cases args; simp_all
  obtain ⟨p, a_p, rfl, h_p, g_p⟩ := arg_prog (hval 0 29 v0 rfl rfl) h0
  obtain ⟨n, rfl, rfl, rfl, w1⟩ := open_int Tryd.underlying3 (hval 1 3 v1 rfl rfl) h1
  have h_n := i64_range w1
  obtain ⟨A_ways, c_ways, ways, rfl, hc_ways, hm_ways, hi_ways, hg_ways⟩ := arg_slice (K := Kd.bool) Tryd.underlying50 (by kernel_rfl) (by decide) opens_flag (hval 2 50 v2 rfl rfl) h2
  refine (FlowEnds_holds h_p hT n hi_ways hm_ways).mono fun v W1 ⟨he, hg⟩ => ?_
  subst he
  exact post_law hW' rfl rfl (by kernel_rfl) (by decide +kernel) rfl Tryd.underlying4 hg
theorem flowEndsOver : Rows.flowEndsRow.holds Tryd.pinned (OpenSpec.ofChange Rows.flowEndsSpec) :=
  OpenClaim.holds_of_wide 6 Tryd.f6 rfl rfl rfl rfl rfl rfl rfl ⟨rfl, rfl, rfl, rfl, rfl⟩ rfl rfl rfl rfl rfl (by kernel_rfl) Tryd.func6 (by kernel_rfl)
    (of_decide_eq_true (by kernel_rfl)) (by unfold Func.isWrapper; first | (rw [if_pos (by decide +kernel)]; kernel_rfl) | (rw [if_neg (by decide +kernel)]; exact ⟨rfl, rfl⟩))
    (fun os started H enc _ => flowEndsLifted os started H enc)
theorem flowEnds_holds : Rows.FlowEndsCardSaid :=
  Claim7.holds_tied_plain_at .later [] [.listed, .data] true (true, "6c86dc25ae065ddd556130eedf3b4c5f354a598fbbd267b376460cf1cf58c4be") false
    flowEndsOver (fun _ h => by cases h) (by kernel_rfl) (fun _ h => by cases h) flowEnds_row_tie rfl ⟨rfl, rfl⟩ (by kernel_rfl) rfl
    (fun g fn hf hfn => by
      obtain rfl : g = 6 := Option.some.inj ((show Tryd.prog.funcNamed "cardindex/cardindexlaw16.FlowEnds" = some 6 by kernel_rfl).symm.trans hf) |>.symm
      obtain rfl : fn = Tryd.f6 := (Option.some.inj (Tryd.func6.symm.trans hfn)).symm
      exact ⟨by kernel_rfl, fun j t ht => by
        have hm : t ∈ [29, 3, 50] := by simpa using Array.mem_of_getElem? (show (#[29, 3, 50] : Array TypeId)[j]? = some t from ht)
        have hall : ([29, 3, 50].all fun u => !Tryd.prog.wantsStandIn u) = true := by kernel_rfl
        exact (show Tryd.prog.wantsStandIn t = false by simpa using List.all_eq_true.1 hall t hm)⟩)
    (by kernel_rfl)
#print axioms flowEnds_holds
end Go.Proofs.YtabfhckjinejfaaDoor
