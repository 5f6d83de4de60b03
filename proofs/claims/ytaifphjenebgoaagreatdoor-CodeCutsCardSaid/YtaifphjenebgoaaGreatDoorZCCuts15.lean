/- 'Rows.CodeCutsCardSaid': cardindex/cardindexlaw15.CodeCuts answers true and changes nothing: the bytes of a program are that one's: of any beginning of them, and with a byte more, none is read. (The listed package-level variables, strings.asciiSpace and unicode.White_Space among them, read as the program's text lays them: tied.) -/
import Derived.Test.YtaifphjenebgoaaGreatDoorRows
import Derived.Test.YtaifphjenebgoaaGreatDoorCards
import Derived.Test.YtaifphjenebgoaaGreatDoorTie
import Derived.Test.YtaifphjenebgoaaGreatDoorZCCuts15P6
import Derived.Test.YtaifphjenebgoaaGreatDoorZCCuts15P5
import Derived.Test.YtaifphjenebgoaaGreatDoorZCCuts15P2
import Derived.LaidMore
import Derived.Stop.Joined
import Derived.Stop.LaidErr
import Derived.Lib.LaidTab
import Derived.SevenTiedAt
set_option linter.unusedVariables false
namespace Go.Proofs.YtaifphjenebgoaaGreatDoor
open Go Go.Sx Go.ChangeShapes Go.WideShapes Go.ChangeAt Go.WideMaps Go.WideElems Go.RowKit K15
theorem codeCutsOwn : ownKnob Tryz.prog.godebug = none := by kernel_rfl
theorem codeCutsDoor (os : Os) (args : Array Value) : laidMetH Tryz.prog Rows.codeCutsRow.laid ((World.doorLaid Tryz.prog 48 os).forCall (fun _ _ => 0) ⟨#[], args, []⟩).memory :=
  laidMetH_of_parts3 (fuel := 8) (laidMet_of_run' 8 (by kernel_rfl) (by kernel_rfl)) (by kernel_rfl) (by kernel_rfl)
theorem codeCutsDatum : (Rows.laid_strings_asciiSpace : DataW Unit) = Lib.tabData .u8 Lib.asciiSpaceTab := by kernel_rfl
set_option maxRecDepth 100000 in
theorem codeCutsTab {W : World} (h : laidMetH Tryz.prog Rows.codeCutsRow.laid W) : Tab W := by
  rw [MakeChecks.laidMetH_plain _ _ _ (by kernel_rfl)] at h
  have h2 : laidMet Tryz.prog (("strings.asciiSpace", Rows.laid_strings_asciiSpace) :: []) W := laidMet.tail (laidMet.tail (laidMet.tail (laidMet.tail h)))
  rw [codeCutsDatum] at h2
  exact Lib.tabIs_of_head (g := 0) (t := 159) (e := 5) (n := 256) (by kernel_rfl) (by kernel_rfl) (by kernel_rfl) (by kernel_rfl) (by kernel_rfl) (by kernel_rfl) h2
set_option maxRecDepth 100000 in
theorem codeCutsLifted (os : Os) (started : os.Started) (H : Type) (enc : TypeId × Value → H) :
    ReturnsInHanded {} Tryz.checked os 3 .any (fun w args => (Rows.codeCutsSpec.pre enc Tryz.prog Tryz.f3 [] false w args ∧ laidMetH Tryz.prog Rows.codeCutsRow.laid w) ∧ sizedMet enc Tryz.prog Tryz.f3 (OpenSpec.ofChange Rows.codeCutsSpec) false w args) (Rows.codeCutsSpec.post enc Tryz.prog Tryz.f3 false true false false) := by
  refine returnsInHanded_of_change_and (C := Tryz.checked) (X := fun w _ => laidMetH Tryz.prog Rows.codeCutsRow.laid w) (fun _ _ _ hh h => h.of_heap hh) codeCutsOwn started (by kernel_rfl) Tryz.func3
    (ChangeSpec.witness_shaped (enc := enc) (C := Tryz.checked) (os := os) (X := fun w _ => laidMetH Tryz.prog Rows.codeCutsRow.laid w) false (World.doorLaid Tryz.prog 48 os) #[.agg #[.int .i64 0, .int .i64 0, .int .i64 0, .slice none 0 0, .slice none 0 0, .slice none 0 0, .slice none 0 0, .slice none 0 0, .slice none 0 0], .int .i64 0, .int .u8 0] 8 rfl (World.shaped_of_RefB (by kernel_rfl) (by kernel_rfl)) (by kernel_rfl) (by kernel_rfl) (by kernel_rfl) (codeCutsDoor os _)) ?_
  intro W base args ds gs before hval0 hW _ _ hL _
  have hT := codeCutsTab hL
  have hval : ∀ (j : Nat) t v, Tryz.f3.params[j]? = some t → args[j]? = some v → Value.okWide Tryz.prog W .any base t v := hval0
  have hW' := hW
  obtain ⟨p, q, hA0, hV, rfl, hfz, hnd⟩ := hW
  obtain ⟨rfl, rfl⟩ := trodVars_none hV
  have r0 : DataW.TrodAll enc Tryz.prog W 0 (fun _ => true) true [29, 3, 5] args.toList ds p := hA0
  obtain ⟨v0, vs0, d0, ds0, p0, q0, hargs, rfl, rfl, h0, r1⟩ := trodAll_cons r0
  obtain ⟨v1, vs1, d1, ds1, p1, q1, rfl, rfl, rfl, h1, r2⟩ := trodAll_cons r1
  obtain ⟨v2, vs2, d2, ds2, p2, q2, rfl, rfl, rfl, h2, r3⟩ := trodAll_cons r2
  obtain ⟨rfl, rfl, rfl⟩ := trodAll_nil r3
  obtain rfl : args = #[v0, v1, v2] := by cases args; simp_all
  obtain ⟨p, a_p, rfl, h_p, g_p⟩ := arg_prog (hval 0 29 v0 rfl rfl) h0
  obtain ⟨cut, rfl, rfl, rfl, w1⟩ := open_int Tryz.underlying3 (hval 1 3 v1 rfl rfl) h1
  have h_cut := i64_range w1
  obtain ⟨x2, rfl, rfl, rfl, w2⟩ := open_int Tryz.underlying5 (hval 2 5 v2 rfl rfl) h2
  obtain ⟨more, rfl, h_more⟩ := u8_nat w2
  refine (CodeCuts_holds h_p g_p cut more h_more hT).mono fun v W1 ⟨he, hg⟩ => ?_
  subst he
  exact post_law hW' rfl rfl (by kernel_rfl) (by decide +kernel) rfl Tryz.underlying4 hg
theorem codeCutsOver : Rows.codeCutsRow.holds Tryz.pinned (OpenSpec.ofChange Rows.codeCutsSpec) :=
  OpenClaim.holds_of_wide 3 Tryz.f3 rfl rfl rfl rfl rfl rfl rfl ⟨rfl, rfl, rfl, rfl, rfl⟩ rfl rfl rfl rfl rfl (by kernel_rfl) Tryz.func3 (by kernel_rfl)
    (of_decide_eq_true (by kernel_rfl)) (by unfold Func.isWrapper; first | (rw [if_pos (by decide +kernel)]; kernel_rfl) | (rw [if_neg (by decide +kernel)]; exact ⟨rfl, rfl⟩))
    (fun os started H enc _ => codeCutsLifted os started H enc)
theorem codeCuts_holds : Rows.CodeCutsCardSaid :=
  Claim7.holds_tied_plain_at .later [] [.data, .data, .data, .listed, .data] true (true, "b31b9ad48ed583609c6f13b8641146694434c8dc65eac971704bd39b51faabdf") false
    codeCutsOver (fun _ h => by cases h) (by kernel_rfl) (fun _ h => by cases h) codeCuts_row_tie rfl ⟨rfl, rfl⟩ (by kernel_rfl) rfl
    (fun g fn hf hfn => by
      obtain rfl : g = 3 := Option.some.inj ((show Tryz.prog.funcNamed "cardindex/cardindexlaw15.CodeCuts" = some 3 by kernel_rfl).symm.trans hf) |>.symm
      obtain rfl : fn = Tryz.f3 := (Option.some.inj (Tryz.func3.symm.trans hfn)).symm
      exact ⟨by kernel_rfl, fun j t ht => by
        have hm : t ∈ [29, 3, 5] := by simpa using Array.mem_of_getElem? (show (#[29, 3, 5] : Array TypeId)[j]? = some t from ht)
        have hall : ([29, 3, 5].all fun u => !Tryz.prog.wantsStandIn u) = true := by kernel_rfl
        exact (show Tryz.prog.wantsStandIn t = false by simpa using List.all_eq_true.1 hall t hm)⟩)
    (by kernel_rfl)
#print axioms codeCuts_holds
end Go.Proofs.YtaifphjenebgoaaGreatDoor
