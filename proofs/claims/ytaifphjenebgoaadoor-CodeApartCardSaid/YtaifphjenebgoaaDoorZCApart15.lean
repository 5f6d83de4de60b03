/- 'Rows.CodeApartCardSaid': cardindex/cardindexlaw15.CodeApart answers true and changes nothing: unlike programs have unlike bytes: of two programs that may be, the bytes are the same just if they are. (The listed package-level variables, strings.asciiSpace and unicode.White_Space among them, read as the program's text lays them: tied.) -/
import Derived.Test.YtaifphjenebgoaaDoorRows
import Derived.Test.YtaifphjenebgoaaDoorCards
import Derived.Test.YtaifphjenebgoaaDoorTie
import Derived.Test.YtaifphjenebgoaaDoorZCApart15P6
import Derived.Test.YtaifphjenebgoaaDoorZCApart15P5
import Derived.Test.YtaifphjenebgoaaDoorZCApart15P2
import Derived.LaidMore
import Derived.Stop.Joined
import Derived.Stop.LaidErr
import Derived.Lib.LaidTab
import Derived.SevenTiedAt
set_option linter.unusedVariables false
namespace Go.Proofs.YtaifphjenebgoaaDoor
open Go Go.Sx Go.ChangeShapes Go.WideShapes Go.ChangeAt Go.WideMaps Go.WideElems Go.RowKit K15
theorem codeApartOwn : ownKnob Tryd.prog.godebug = none := by kernel_rfl
theorem codeApartDoor (os : Os) (args : Array Value) : laidMetH Tryd.prog Rows.codeApartRow.laid ((World.doorLaid Tryd.prog 48 os).forCall (fun _ _ => 0) ⟨#[], args, []⟩).memory :=
  laidMetH_of_parts3 (fuel := 8) (laidMet_of_run' 8 (by kernel_rfl) (by kernel_rfl)) (by kernel_rfl) (by kernel_rfl)
theorem codeApartDatum : (Rows.laid_strings_asciiSpace : DataW Unit) = Lib.tabData .u8 Lib.asciiSpaceTab := by kernel_rfl
set_option maxRecDepth 100000 in
theorem codeApartTab {W : World} (h : laidMetH Tryd.prog Rows.codeApartRow.laid W) : Tab W := by
  rw [MakeChecks.laidMetH_plain _ _ _ (by kernel_rfl)] at h
  have h2 : laidMet Tryd.prog (("strings.asciiSpace", Rows.laid_strings_asciiSpace) :: []) W := laidMet.tail (laidMet.tail (laidMet.tail (laidMet.tail h)))
  rw [codeApartDatum] at h2
  exact Lib.tabIs_of_head (g := 0) (t := 63) (e := 5) (n := 256) (by kernel_rfl) (by kernel_rfl) (by kernel_rfl) (by kernel_rfl) (by kernel_rfl) (by kernel_rfl) h2
set_option maxRecDepth 100000 in
theorem codeApartLifted (os : Os) (started : os.Started) (H : Type) (enc : TypeId × Value → H) :
    ReturnsInHanded {} Tryd.checked os 6 .any (fun w args => (Rows.codeApartSpec.pre enc Tryd.prog Tryd.f6 [] false w args ∧ laidMetH Tryd.prog Rows.codeApartRow.laid w) ∧ sizedMet enc Tryd.prog Tryd.f6 (OpenSpec.ofChange Rows.codeApartSpec) false w args) (Rows.codeApartSpec.post enc Tryd.prog Tryd.f6 false true false false) := by
  refine returnsInHanded_of_change_and (C := Tryd.checked) (X := fun w _ => laidMetH Tryd.prog Rows.codeApartRow.laid w) (fun _ _ _ hh h => h.of_heap hh) codeApartOwn started (by kernel_rfl) Tryd.func6
    (ChangeSpec.witness_shaped (enc := enc) (C := Tryd.checked) (os := os) (X := fun w _ => laidMetH Tryd.prog Rows.codeApartRow.laid w) false (World.doorLaid Tryd.prog 48 os) #[.agg #[.int .i64 0, .int .i64 0, .int .i64 0, .slice none 0 0, .slice none 0 0, .slice none 0 0, .slice none 0 0, .slice none 0 0, .slice none 0 0], .agg #[.int .i64 0, .int .i64 0, .int .i64 0, .slice none 0 0, .slice none 0 0, .slice none 0 0, .slice none 0 0, .slice none 0 0, .slice none 0 0]] 8 rfl (World.shaped_of_RefB (by kernel_rfl) (by kernel_rfl)) (by kernel_rfl) (by kernel_rfl) (by kernel_rfl) (codeApartDoor os _)) ?_
  intro W base args ds gs before hval0 hW _ _ hL _
  have hT := codeApartTab hL
  have hval : ∀ (j : Nat) t v, Tryd.f6.params[j]? = some t → args[j]? = some v → Value.okWide Tryd.prog W .any base t v := hval0
  have hW' := hW
  obtain ⟨p, q, hA0, hV, rfl, hfz, hnd⟩ := hW
  obtain ⟨rfl, rfl⟩ := trodVars_none hV
  have r0 : DataW.TrodAll enc Tryd.prog W 0 (fun _ => true) true [29, 29] args.toList ds p := hA0
  obtain ⟨v0, vs0, d0, ds0, p0, q0, hargs, rfl, rfl, h0, r1⟩ := trodAll_cons r0
  obtain ⟨v1, vs1, d1, ds1, p1, q1, rfl, rfl, rfl, h1, r2⟩ := trodAll_cons r1
  obtain ⟨rfl, rfl, rfl⟩ := trodAll_nil r2
  obtain rfl : args = #[v0, v1] := by cases args; simp_all
  obtain ⟨x, a_x, rfl, h_x, g_x⟩ := arg_prog (hval 0 29 v0 rfl rfl) h0
  obtain ⟨y, a_y, rfl, h_y, g_y⟩ := arg_prog (hval 1 29 v1 rfl rfl) h1
  refine (CodeApart_holds h_x h_y g_x g_y hT).mono fun v W1 ⟨he, hg⟩ => ?_
  subst he
  exact post_law hW' rfl rfl (by kernel_rfl) (by decide +kernel) rfl Tryd.underlying4 hg
theorem codeApartOver : Rows.codeApartRow.holds Tryd.pinned (OpenSpec.ofChange Rows.codeApartSpec) :=
  OpenClaim.holds_of_wide 6 Tryd.f6 rfl rfl rfl rfl rfl rfl rfl ⟨rfl, rfl, rfl, rfl, rfl⟩ rfl rfl rfl rfl rfl (by kernel_rfl) Tryd.func6 (by kernel_rfl)
    (of_decide_eq_true (by kernel_rfl)) (by unfold Func.isWrapper; first | (rw [if_pos (by decide +kernel)]; kernel_rfl) | (rw [if_neg (by decide +kernel)]; exact ⟨rfl, rfl⟩))
    (fun os started H enc _ => codeApartLifted os started H enc)
theorem codeApart_holds : Rows.CodeApartCardSaid :=
  Claim7.holds_tied_plain_at .later [] [.data, .data, .data, .listed, .data] true (true, "47bb77c3c38be63c5e885f808329e2205f25ca46278651a9402abf99d33b6371") false
    codeApartOver (fun _ h => by cases h) (by kernel_rfl) (fun _ h => by cases h) codeApart_row_tie rfl ⟨rfl, rfl⟩ (by kernel_rfl) rfl
    (fun g fn hf hfn => by
      obtain rfl : g = 6 := Option.some.inj ((show Tryd.prog.funcNamed "cardindex/cardindexlaw15.CodeApart" = some 6 by kernel_rfl).symm.trans hf) |>.symm
      obtain rfl : fn = Tryd.f6 := (Option.some.inj (Tryd.func6.symm.trans hfn)).symm
      exact ⟨by kernel_rfl, fun j t ht => by
        have hm : t ∈ [29, 29] := by simpa using Array.mem_of_getElem? (show (#[29, 29] : Array TypeId)[j]? = some t from ht)
        have hall : ([29, 29].all fun u => !Tryd.prog.wantsStandIn u) = true := by kernel_rfl
        exact (show Tryd.prog.wantsStandIn t = false by simpa using List.all_eq_true.1 hall t hm)⟩)
    (by kernel_rfl)
#print axioms codeApart_holds
end Go.Proofs.YtaifphjenebgoaaDoor
